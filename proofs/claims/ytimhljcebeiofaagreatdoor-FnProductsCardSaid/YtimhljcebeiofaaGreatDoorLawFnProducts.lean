/- The law FnProducts: the whole walk. -/
import Derived.Test.YtimhljcebeiofaaGreatDoorPrR
import Derived.Test.YtimhljcebeiofaaGreatDoorRdb
import Derived.Deep.RegionHeld3
import Derived.Deep.Cut
import Derived.Deep.CutBlock
namespace Go.Proofs.YtimhljcebeiofaaGreatDoor
set_option linter.unusedSimpArgs false
set_option linter.unusedVariables false
open Go.RowKit
open Ieee
theorem one_cell {w : World} {v : Value} {x : Value} (h : SlR w v [x]) : ∃ b off c, v = .slice (some ⟨b, off, none⟩) 1 c ∧ 1 ≤ c ∧ c ≤ maxLen ∧ w.cell? ⟨b, off, none⟩ = some x := by
  obtain ⟨a, c, h1, h2, h3, h4⟩ := h
  obtain ⟨b, off, rfl, hc⟩ := h4 0 x rfl
  exact ⟨b, off, c, h1, h2, h3, hc⟩
theorem neg_neg32 (y : Nat) : Op.negFloat .f32 (Op.negFloat .f32 y) = y := by
  unfold Op.negFloat
  rw [Nat.xor_assoc, Nat.xor_self, Nat.xor_zero]
theorem neg_lt32 {y : Nat} (h : y < 4294967296) : Op.negFloat .f32 y < 4294967296 := by
  unfold Op.negFloat
  exact Nat.xor_lt_two_pow (n := 32) h (by decide)
theorem cn_lt {x : Nat} (h : x < 4294967296) : cn x < 4294967296 := bC_lt h
theorem cn_cn (x : Nat) : cn (cn x) = cn x := bC_bC x
theorem wd_cC {cs : List (Nat × Nat)} (h : Wd cs) : Wd (cs.map cC) := fun c hc => by
  obtain ⟨d, hd, rfl⟩ := List.mem_map.1 hc
  exact ⟨bC_lt (h d hd).1, bC_lt (h d hd).2⟩
theorem cC_same {cs : List (Nat × Nat)} : ∀ i, i < (cs.map cC).length → cn ((cs.map cC)[i]?.getD (0, 0)).1 = cn (cs[i]?.getD (0, 0)).1 ∧ cn ((cs.map cC)[i]?.getD (0, 0)).2 = cn (cs[i]?.getD (0, 0)).2 := fun i hi => by
  rw [List.length_map] at hi
  rw [List.getElem?_map, List.getElem?_eq_getElem hi]
  exact ⟨cn_cn _, cn_cn _⟩

set_option maxRecDepth 100000 in
set_option maxHeartbeats 8000000 in
theorem pro_walk (w : World) (a1 a2 : Option Addr) (c1 c2 : Nat) (code more : List UInt8) (nc nm : Nat) (hnc : code.length = nc) (hnm : more.length = nm) (hc : nc ≤ 1048576) (hm : nm ≤ 1048576) (s1 : SlR w (.slice a1 nc c1) (byv code)) (s2 : SlR w (.slice a2 nm c2) (byv more))
    (hdb : w.cell? ⟨6, 15, none⟩ = some (.int .u8 4)) (hml : ∃ m, w.cell? ⟨4, 0, none⟩ = some (.int .i64 m)) :
    Calls Tryz.prog 3 #[.slice a1 nc c1, .slice a2 nm c2] w fun e w' => e = .returned (.bool true) ∧ Below w.heap.size w w' := by
  have HL := Lib.hid (b10Long_any _ _ code more w s1 s2)
  rw [hnc, hnm, show (decide (1048576 < nc) || decide (1048576 < nm)) = false by simp; omega] at HL
  have HW1 := Lib.hid (B10Whole_any w _ code (by omega) s1)
  have HW2 : Hid (∀ W, Below w.heap.size w W → Calls Tryz.prog 5 #[.slice a2 nm c2, .int .i64 1, .int .i64 200] W fun e w' => (∃ (p q : Int) (v : Value), p.natAbs ≤ 200 ∧ q.natAbs ≤ 200 ∧ e = .returned v ∧ SlR w' v [.complex .f32 (fi p) (fi q)]) ∧ Below W.heap.size W w') := Lib.hid fun W hW => B10Whole_any W _ more (by omega) (s2.below hW)
  have HAT := Lib.hid (fun W (hW : Below w.heap.size w W) => b10At_any _ code 0 9 W (by omega) (by omega) (by omega) (s1.below hW))
  have hat := atB_lt code 0 9 (by omega)
  have HBA : Hid (∀ (W : World) (n : Nat), Below w.heap.size w W → n ≤ 1000 → Calls Tryz.prog 14 #[.slice a2 nm c2, .int .i64 (n : Int)] W fun e w' => (∃ (v : Value) (cs : List (Nat × Nat)), cs.length = n ∧ Wd cs ∧ e = .returned v ∧ SlR w' v (cs.map cV)) ∧ Below W.heap.size W w') := Lib.hid fun W n hW hn => B10Any_any W _ more n (by omega) hn (s2.below hW)
  have HBN := Lib.hid (fun W (hW : Below w.heap.size w W) => B10Number_any W _ code (by omega) (s1.below hW))
  have HBC := Lib.hid (fun W (hW : Below w.heap.size w W) => B10Complex_any W _ code (by omega) (s1.below hW))
  have HCT : Hid (∀ (W : World) (cs : List (Nat × Nat)) (v : Value), Below w.heap.size w W → Wd cs → cs.length ≤ 64 → SlR W v (cs.map cV) → Calls Tryz.prog 16 #[v] W fun e w' => e = .returned (.tuple #[.string ⟨(txL cs).toArray⟩, .bool true]) ∧ Below W.heap.size W w') := Lib.hid fun W cs v hW h1 h2 h3 => complexText_any cs h1 (by omega) v W h3 (cell_step hdb hW)
  have HRC : Hid (∀ (W : World) (cs : List (Nat × Nat)), Below w.heap.size w W → Wd cs → cs.length ≤ 64 → Calls Tryz.prog 17 #[.string ⟨(txL cs).toArray⟩] W fun e w' => (∃ v, e = .returned (.tuple #[v, .bool true]) ∧ SlR w' v ((cs.map cC).map cV)) ∧ Below W.heap.size W w') := Lib.hid fun W cs hW h1 h2 => by
    obtain ⟨m, hm⟩ := hml
    exact readComplex_any cs h1 h2 W (cell_step hdb hW) ⟨m, cell_step hm hW⟩
  clear s1 s2 hnc hnm hdb hml
  generalize atB code 0 9 = n9 at *
  go_enter Tryz.func3, Tryz.ntmps3
  go_upto_region 5 with (first
    | (go_at_call 4; refine HL.out.mono ?_; rintro e w' ⟨rfl, rfl⟩)
    | (go_at_call 5; with_reducible refine HW1.out.mono ?_; rintro e wA ⟨⟨p, q, va, hp, hq, rfl, hva⟩, hbA⟩; obtain ⟨bA, oA, cA, rfl, hA1, hA2, hA3⟩ := one_cell hva)
    | (go_at_call 5; with_reducible refine (HW2.out _ hbA).mono ?_; rintro e wB ⟨⟨r, s, vb, hr, hs, rfl, hvb⟩, hbB⟩; obtain ⟨bB, oB, cB, rfl, hB1, hB2, hB3⟩ := one_cell hvb))
  have hbb := hbA.trans (hbB.mono hbA.size)
  clear HW1 HW2 HL hbA hbB hva hvb hA1 hA2 hA3 hB1 hB2 hB3
  have PF := pf_all hp hq hr hs
  have b1 := abs_mul hp hr
  have b2 := abs_mul hq hs
  have b3 := abs_mul hp hs
  have b4 := abs_mul hq hr
  have b5 := abs_mul hp hp
  have b6 := abs_mul hq hq
  have cvI : ∀ (z : Int), z.natAbs ≤ 200 → ∀ W : World, (convert 28 2 (.float .f32 (fi z))).run Tryz.prog W = .ok (.int .i64 z) W := fun z hz W => run_convert_float_int (P := Tryz.prog) (w := W) 28 2 .f32 .i64 _ _ (by rw [Tryz.underlying28]; rfl) Tryz.underlying2 (fi_int hz)
  have V1 := cvI p hp
  have V2 := cvI q hq
  have V3 := cvI r hr
  have V4 := cvI s hs
  have zr := fi_zero hr
  have zs := fi_zero hs
  have HM1 := Lib.hid (fun W => mulComplex_any _ _ _ _ PF.m1 W)
  have HM2 := Lib.hid (fun W => mulComplex_any _ _ _ _ PF.m2 W)
  have HM3 := Lib.hid (fun W => mulComplex_any _ _ _ _ PF.m3 W)
  have HPW := Lib.hid (fun W => powerOf_any _ _ PF.p1 W)
  have HLO := Lib.hid (fun W => longOf_any _ _ PF.p1 PF.l1.1 PF.l1.2 W)
  have HRO := Lib.hid (fun W => rootS_any _ PF.l2.1 (by rw [PF.l2.2]; exact PF.l1.1) (by rw [PF.l2.2]; exact PF.l1.2) W)
  rw [PF.l2.2] at HRO
  have HSN := Lib.hid (fun W => sameS_any _ _ W PF.l3 PF.l3)
  rw [decide_eq_true (show cn (dn32 (sqW (pwW (fi p) (fi q)))) = cn (dn32 (sqW (pwW (fi p) (fi q)))) from rfl)] at HSN
  have HCJ := Lib.hid (fun W => conj_any (fi p) (fi q) W)
  have HSC := Lib.hid (fun W => scale_any (fi p) (fi q) 1073741824 W PF.s1.1 PF.s1.2)
  have HSM := fun W : World => run_complex_sum (P := Tryz.prog) W .add (.inl rfl) 24 .f32 (fi p) (fi q) (fi p) (fi q) (fA .add .f32 (fi p) (fi p)) (fA .add .f32 (fi q) (fi q)) (by unfold cSumBits; rw [fA_some PF.s2.1, fA_some PF.s2.2]; rfl)
  obtain ⟨e1, e1'⟩ := PF.e1
  obtain ⟨e2, e2'⟩ := PF.e2
  have e3 := PF.e3
  obtain ⟨e4, e4'⟩ := PF.e4
  obtain ⟨e5, e5'⟩ := PF.s3
  have hqt := PF.qt
  obtain ⟨u1, hu1⟩ : ∃ u, u = p * r := ⟨_, rfl⟩
  obtain ⟨u2, hu2⟩ : ∃ u, u = q * s := ⟨_, rfl⟩
  obtain ⟨u3, hu3⟩ : ∃ u, u = p * s := ⟨_, rfl⟩
  obtain ⟨u4, hu4⟩ : ∃ u, u = q * r := ⟨_, rfl⟩
  obtain ⟨u5, hu5⟩ : ∃ u, u = p * p := ⟨_, rfl⟩
  obtain ⟨u6, hu6⟩ : ∃ u, u = q * q := ⟨_, rfl⟩
  have w1 : IntKind.i64.wrap (p * r) = u1 := (IntWalk.i64_in _ (by omega)).trans hu1.symm
  have w2 : IntKind.i64.wrap (q * s) = u2 := (IntWalk.i64_in _ (by omega)).trans hu2.symm
  have w3 : IntKind.i64.wrap (p * s) = u3 := (IntWalk.i64_in _ (by omega)).trans hu3.symm
  have w4 : IntKind.i64.wrap (q * r) = u4 := (IntWalk.i64_in _ (by omega)).trans hu4.symm
  have w5 : IntKind.i64.wrap (p * p) = u5 := (IntWalk.i64_in _ (by omega)).trans hu5.symm
  have w6 : IntKind.i64.wrap (q * q) = u6 := (IntWalk.i64_in _ (by omega)).trans hu6.symm
  have w1' : wrap64 (p * r) = u1 := (IntWalk.wrap64_in _ (by omega)).trans hu1.symm
  have w2' : wrap64 (q * s) = u2 := (IntWalk.wrap64_in _ (by omega)).trans hu2.symm
  have w3' : wrap64 (p * s) = u3 := (IntWalk.wrap64_in _ (by omega)).trans hu3.symm
  have w4' : wrap64 (q * r) = u4 := (IntWalk.wrap64_in _ (by omega)).trans hu4.symm
  have w5' : wrap64 (p * p) = u5 := (IntWalk.wrap64_in _ (by omega)).trans hu5.symm
  have w6' : wrap64 (q * q) = u6 := (IntWalk.wrap64_in _ (by omega)).trans hu6.symm
  rw [← hu1] at b1
  rw [← hu2] at b2
  rw [← hu3] at b3
  rw [← hu4] at b4
  rw [← hu5] at b5
  rw [← hu6] at b6
  rw [← hu1, ← hu2] at e1
  rw [← hu3, ← hu4] at e1'
  rw [← hu5, ← hu6] at e3 e4 HRO
  have HQ : Hid (r ≠ 0 ∨ s ≠ 0 → ∀ W, Calls Tryz.prog 12 #[.complex .f32 (mlR (fi p) (fi q) (fi r) (fi s)) (mlI (fi p) (fi q) (fi r) (fi s)), .complex .f32 (fi r) (fi s)] W fun e w' => e = .returned (.complex .f32 (qtR (mlR (fi p) (fi q) (fi r) (fi s)) (mlI (fi p) (fi q) (fi r) (fi s)) (fi r) (fi s)) (qtI (mlR (fi p) (fi q) (fi r) (fi s)) (mlI (fi p) (fi q) (fi r) (fi s)) (fi r) (fi s))) ∧ W = w') := Lib.hid fun h0 W => quotient_any _ _ _ _ (hqt h0).1 W
  have HQE := Lib.hid (fun h0 => (hqt h0).2)
  clear PF cvI hqt hu1 hu2 hu3 hu4 hu5 hu6 hp hq hr hs
  generalize qtR (mlR (fi p) (fi q) (fi r) (fi s)) (mlI (fi p) (fi q) (fi r) (fi s)) (fi r) (fi s) = Q1 at *
  generalize qtI (mlR (fi p) (fi q) (fi r) (fi s)) (mlI (fi p) (fi q) (fi r) (fi s)) (fi r) (fi s) = Q2 at *
  generalize dn32 (sqW (pwW (fi p) (fi q))) = L at *
  generalize dn32 (pwW (fi p) (fi q)) = P1 at *
  generalize mlR (fi p) (fi q) (fi r) (fi s) = M1 at *
  generalize mlI (fi p) (fi q) (fi r) (fi s) = M2 at *
  generalize mlR (fi r) (fi s) (fi p) (fi q) = N1 at *
  generalize mlI (fi r) (fi s) (fi p) (fi q) = N2 at *
  generalize mlR (fi p) (fi q) (fi p) (Op.negFloat .f32 (fi q)) = G1 at *
  generalize mlI (fi p) (fi q) (fi p) (Op.negFloat .f32 (fi q)) = G2 at *
  generalize Op.negFloat .f32 (fi q) = nb at *
  generalize fA .mul .f32 (fi p) 1073741824 = S1 at *
  generalize fA .mul .f32 (fi q) 1073741824 = S2 at *
  generalize fA .add .f32 (fi p) (fi p) = T1 at *
  generalize fA .add .f32 (fi q) (fi q) = T2 at *
  generalize fi p = A at *
  generalize fi q = B at *
  generalize fi r = C at *
  generalize fi s = D at *
  go_upto_region 9 with (go_at_call 6; with_reducible refine (HM1.out _).mono ?_; rintro e w' ⟨rfl, rfl⟩)
  go_upto_region 11 with (first
    | (go_at_call 6; with_reducible refine (HM2.out _).mono ?_; rintro e w' ⟨rfl, rfl⟩)
    | (go_at_call 6; with_reducible refine (HM3.out _).mono ?_; rintro e w' ⟨rfl, rfl⟩)
    | (go_at_call 7; with_reducible refine (HPW.out _).mono ?_; rintro e w' ⟨rfl, rfl⟩)
    | (go_at_call 8; with_reducible refine (HCJ.out _).mono ?_; rintro e w' ⟨rfl, rfl⟩)
    | (go_at_call 10; with_reducible refine (HLO.out _).mono ?_; rintro e w' ⟨rfl, rfl⟩)
    | (go_at_call 11; with_reducible refine (HRO.out _).mono ?_; rintro e w' ⟨rfl, rfl⟩)
    | (go_at_call 9; with_reducible refine (HSN.out _).mono ?_; rintro e w' ⟨rfl, rfl⟩))
  have hcs : ((FloatKind.f32.format.order C 0 == some .eq) = true ∧ (FloatKind.f32.format.order D 0 == some .eq) = true) ∨ ((FloatKind.f32.format.order C 0 == some .eq) = false ∧ (r ≠ 0 ∨ s ≠ 0)) ∨ ((FloatKind.f32.format.order C 0 == some .eq) = true ∧ (FloatKind.f32.format.order D 0 == some .eq) = false ∧ (r ≠ 0 ∨ s ≠ 0)) := by
    by_cases h1 : r = 0
    · by_cases h2 : s = 0
      · exact .inl ⟨by rw [zr, decide_eq_true h1], by rw [zs, decide_eq_true h2]⟩
      · exact .inr (.inr ⟨by rw [zr, decide_eq_true h1], by rw [zs, decide_eq_false h2], .inr h2⟩)
    · exact .inr (.inl ⟨by rw [zr, decide_eq_false h1], .inl h1⟩)
  clear zr zs HM1 HM2 HM3 HPW HCJ HLO HRO HSN e1 e1' e2 e2' e3 e4 e4' w1 w2 w3 w4 w5 w6 w1' w2' w3' w4' w5' w6' b1 b2 b3 b4 b5 b6 V1 V2 V3 V4
  go_cut [136] from 120 to 136 (fun s136 W => s136 = .bool false ∧ wB = W)
  case first =>
    as_aux_lemma =>
      rcases hcs with ⟨z1, z2⟩ | ⟨z1, h0⟩ | ⟨z1, z2, h0⟩
      · go_wp2_with (go_at_call 13; with_reducible refine (HSC.out _).mono ?_; rintro e w' ⟨rfl, rfl⟩)
        go_meet
        exact ⟨rfl, rfl⟩
      all_goals
        obtain ⟨q1, q2⟩ := HQE.out h0
        have HQ2 := Lib.hid (HQ.out h0)
        go_wp2_with (first
          | (go_at_call 12; with_reducible refine (HQ2.out _).mono ?_; rintro e w' ⟨rfl, rfl⟩)
          | (go_at_call 13; with_reducible refine (HSC.out _).mono ?_; rintro e w' ⟨rfl, rfl⟩))
        go_meet
        exact ⟨rfl, rfl⟩
  case rest =>
    obtain ⟨rfl, rfl⟩ := hcut
    clear HSC HSM e5 e5' HQ HQE hcs
    have hnw : (n9 : Int) < 9 := by omega
    go_upto_region 14 with (first
      | (go_at_call 15; refine (HAT.out _ hbb).mono ?_; rintro e w' ⟨rfl, rfl⟩)
      | (go_at_call 14; refine (HBA.out _ _ hbb (by omega)).mono ?_; rintro e w1 ⟨⟨v, cs, hcl, hwd, rfl, hv⟩, hb1⟩))
    have hbb1 := hbb.trans (hb1.mono hbb.size)
    have HV := Lib.hid hv
    have HWD := Lib.hid hwd
    have hc64 : cs.length ≤ 64 := by omega
    have h1 := HCT.out w1 cs v hbb1 hwd hc64 hv
    have HCT1 := Lib.hid h1
    have HRC1 := Lib.hid (fun W (hW : Below w.heap.size w W) => HRC.out W cs hW hwd hc64)
    clear HAT HBA HCT HRC h1 hv hwd hcl hnw hb1
    go_upto_region 16 with (first
      | (go_at_call 16; with_reducible refine HCT1.out.mono ?_; rintro e w2 ⟨rfl, hb2⟩; have hbb2 := hbb1.trans (hb2.mono hbb1.size))
      | (go_at_call 17; refine (HRC1.out _ hbb2).mono ?_; rintro e w3 ⟨⟨v', rfl, hv'⟩, hb3⟩; have hbb3 := hbb2.trans (hb3.mono hbb2.size)))
    have HSM : Hid (∀ W, Below w3.heap.size w3 W → Calls Tryz.prog 22 #[v', v] W fun e w' => e = .returned (.bool true) ∧ Qu W w') := Lib.hid fun W hW => b10Same_any v' v _ cs W (wd_cC HWD.out) HWD.out (by simp) cC_same (hv'.below hW) (((HV.out.below hb2).below hb3).below hW)
    have HBN1 := Lib.hid (HBN.out w3 hbb3)
    clear HCT1 HRC1 HBN hv' hb2 hb3 hbb1 hbb2
    generalize txL cs = t at *
    go_upto_region 17 with (go_at_call 18; with_reducible refine HBN1.out.mono ?_; rintro e w4 ⟨⟨z, hz, rfl⟩, hb4⟩)
    have hbb4 := hbb3.trans (hb4.mono hbb3.size)
    have HB1 := Lib.hid (bitsOfI_any z w4 hz)
    have HB2 := Lib.hid (fromBits_any (cn z) w4 (cn_lt hz))
    have HS1 := Lib.hid (fun W => sameS_any (cn z) z W (cn_lt hz) hz)
    rw [decide_eq_true (cn_cn z)] at HS1
    have HBC1 := Lib.hid (HBC.out w4 hbb4)
    clear HBC HBN1 hbb3
    generalize cn z = zc at *
    go_upto_region 19 with (first
      | (go_at_call 20; with_reducible refine HB1.out.mono ?_; rintro e w' ⟨rfl, rfl⟩)
      | (go_at_call 19; with_reducible refine HB2.out.mono ?_; rintro e w' ⟨rfl, rfl⟩)
      | (go_at_call 21; with_reducible refine HBC1.out.mono ?_; rintro e w5 ⟨⟨x, y, hx, hy, rfl⟩, hb5⟩))
    have hbb5 := hbb4.trans (hb5.mono hbb4.size)
    have hb35 := hb4.trans (hb5.mono hb4.size)
    have V1 := fun W => run_wide x W hx
    have V2 := fun W => run_wide y W hy
    clear HB1 HB2 HBC1 hbb4 hb4 hb5
    go_upto_region 20 with fail
    have hu1 := wdW_up hx w5
    have hu2 := wdW_up hy (wdS x w5)
    have hq6 := (wdS_qu x w5).trans (wdS_qu y (wdS x w5))
    have HN1 := Lib.hid (fun W => narrowComplex_any x y _ _ hx hy hu1 hu2 W)
    have HSM1 := Lib.hid (HSM.out (wdS y (wdS x w5)) (hb35.trans (hq6.below _)))
    have hB := hbb5.trans (hq6.below _)
    have HSC : Hid (∀ (W : World) (x' y' : Nat), x' < 4294967296 → y' < 4294967296 → cn x' = cn x → cn y' = cn y → Calls Tryz.prog 23 #[.complex .f32 x' y', .complex .f32 x y] W fun e w' => e = .returned (.bool true) ∧ W = w') := Lib.hid fun W x' y' h1 h2 h3 h4 => by
      have h := sameComplex_any x' y' x y W h1 h2 hx hy
      rw [decide_eq_true h3, decide_eq_true h4] at h
      exact h
    have HSD := Lib.hid (fun W => HSC.out W x y hx hy rfl rfl)
    have HC1 := Lib.hid (fun W => conj_any x y W)
    have HC2 := Lib.hid (fun W => conj_any x (Op.negFloat .f32 y) W)
    rw [neg_neg32] at HC2
    have HF := Lib.hid (fun W => isFiniteComplex_any x y W)
    have HF1 := Lib.hid (fun W => isFiniteS_any x W)
    have HF2 := Lib.hid (fun W => isFiniteS_any y W)
    clear HSM hu1 hu2 V1 V2 hbb5 hb35 hq6
    generalize finB x = fx at *
    generalize finB y = fy at *
    generalize wdW x w5 = ux at *
    generalize wdW y (wdS x w5) = uy at *
    generalize wdS y (wdS x w5) = w6 at *
    generalize Op.negFloat .f32 y = ny at *
    as_aux_lemma =>
      cases fx
      all_goals
        go_wp2_with (first
          | (go_at_call 22; with_reducible refine HSM1.out.mono ?_; rintro e w' ⟨rfl, hq⟩; have hB := hB.trans (hq.below _))
          | (go_at_call 9; with_reducible refine (HS1.out _).mono ?_; rintro e w' ⟨rfl, rfl⟩)
          | (go_at_call 24; with_reducible refine (HN1.out _).mono ?_; rintro e w' ⟨⟨x', y', hx', hy', hcx, hcy, rfl⟩, hq⟩; have hB := hB.trans (hq.below _))
          | (go_at_call 23; with_reducible refine (HSD.out _).mono ?_; rintro e w' ⟨rfl, rfl⟩)
          | (go_at_call 23; with_reducible refine (HSC.out _ _ _ hx' hy' hcx hcy).mono ?_; rintro e w' ⟨rfl, rfl⟩)
          | (go_at_call 8; with_reducible refine (HC1.out _).mono ?_; rintro e w' ⟨rfl, rfl⟩)
          | (go_at_call 8; with_reducible refine (HC2.out _).mono ?_; rintro e w' ⟨rfl, rfl⟩)
          | (go_at_call 25; with_reducible refine (HF.out _).mono ?_; rintro e w' ⟨rfl, hq⟩; have hB := hB.trans (hq.below _))
          | (go_at_call 26; with_reducible refine (HF1.out _).mono ?_; rintro e w' ⟨rfl, hq⟩; have hB := hB.trans (hq.below _))
          | (go_at_call 26; with_reducible refine (HF2.out _).mono ?_; rintro e w' ⟨rfl, hq⟩; have hB := hB.trans (hq.below _)))
        go_ret
        exact ⟨rfl, hB⟩

set_option maxRecDepth 100000 in
set_option maxHeartbeats 1000000 in
theorem law_FnProducts (w : World) (a1 : Option Addr) (c1 : Nat) (code : List UInt8) (_ : code.length ≤ c1 ∧ c1 ≤ 9223372036854775807) (s1 : SlR w (.slice a1 code.length c1) (byv code)) (_ : ∀ x ∈ code, True) (a2 : Option Addr) (c2 : Nat) (more : List UInt8) (_ : more.length ≤ c2 ∧ c2 ≤ 9223372036854775807) (s2 : SlR w (.slice a2 more.length c2) (byv more)) (_ : ∀ x ∈ more, True)
    (hdb : w.cell? ⟨6, 15, none⟩ = some (.int .u8 4)) (hml : ∃ m, w.cell? ⟨4, 0, none⟩ = some (.int .i64 m)) :
    Calls Tryz.prog 3 #[.slice a1 code.length c1, .slice a2 more.length c2] w fun e w' => e = .returned (.bool true) ∧ Below w.heap.size w w' := by
  by_cases h : code.length ≤ 1048576 ∧ more.length ≤ 1048576
  · exact pro_walk w a1 a2 c1 c2 code more _ _ rfl rfl h.1 h.2 s1 s2 hdb hml
  · have HL := Lib.hid (b10Long_any _ _ code more w s1 s2)
    rw [show (decide (1048576 < code.length) || decide (1048576 < more.length)) = true by simp; omega] at HL
    clear s1 s2 h hdb hml
    generalize code.length = n1 at *
    generalize more.length = n2 at *
    go_enter Tryz.func3, Tryz.ntmps3
    go_wp2_with (go_at_call 4; refine HL.out.mono ?_; rintro e w' ⟨rfl, rfl⟩)
    go_ret
    exact ⟨rfl, Below.refl _ _⟩

end Go.Proofs.YtimhljcebeiofaaGreatDoor
