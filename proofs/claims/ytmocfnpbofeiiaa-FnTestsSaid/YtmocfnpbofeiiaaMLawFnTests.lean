/- The law FnTests: the whole walk. -/
import Derived.Test.YtmocfnpbofeiiaaMTsL
import Derived.Test.YtmocfnpbofeiiaaMRdb
import Derived.Deep.RegionHeld3
import Derived.Deep.Cut
import Derived.Deep.CutBlock
namespace Go.Proofs.Ytmocfnpbofeiiaa
set_option linter.unusedSimpArgs false
set_option linter.unusedVariables false
open Go.RowKit
open Ieee
theorem bw_low : ∀ v : Nat, v < 17 → (-1000 : Rat) ≤ sv single (bw v) := by decide +kernel
theorem fnt_m1000 : Fnt single 3296329728 := sv_m1000.1
/-- All the errors together. -/
theorem ts_errors {ks js : List Nat} {L n v : Nat} (K : Dr ks L) (J : Dr js L) (hn : n ≤ 7) (hv : v < 17) : ∃ x y u z q : Nat, out_TestErrors (rowK ks) (rowK js) (n : Int) (bw v) = (x, y, true) ∧ out_TestErrors (rowK ks) (rowK js) (n : Int) (fA .add .f32 (bw v) 1056964608) = (u, z, true) ∧ out_TestErrors (rowK ks) (rowK js) (n : Int) 3296329728 = (0, q, true) ∧ TsA x y u z q := by
  obtain ⟨_, _, f1, f2, f3, _, _⟩ := bw_of hv
  obtain ⟨x0, _, x2, x3⟩ := te_bars K J hn f1 f2 f3
  have fm := fnt_m1000
  obtain ⟨_, y0, _, y3⟩ := te_bars K J hn fm f1 (by rw [sv_m1000.2]; exact bw_low v hv)
  obtain ⟨a1, a2⟩ := te_fin K J hn (b := bw v)
  obtain ⟨b1, b2⟩ := te_fin K J hn (b := fA .add .f32 (bw v) 1056964608)
  obtain ⟨_, c2⟩ := te_fin K J hn (b := 3296329728)
  obtain ⟨l1, l2⟩ := te_low K J hn
  have le := te_le K J hn (b := bw v)
  have l3 := Rat.le_trans (le_av _) l2
  refine ⟨_, _, _, _, _, te_out K J hn f1, te_out K J hn f2, ?_, ts_a a1 a2 b1 b2 c2 x0 y0 le ?_ x2 x3 l2⟩
  · rw [te_out K J hn fm, l1]
  · generalize sv single (teF (rowK ks) (rowK js) L 3296329728 (tysL n L)).2 = s at *
    generalize sv single (teF (rowK ks) (rowK js) L (bw v) (tysL n L)).2 = t at *
    clear l2
    grind

set_option maxRecDepth 100000 in
set_option maxHeartbeats 8000000 in
theorem tests_walk (w : World) (a1 a2 : Option Addr) (c1 c2 : Nat) (code more : List UInt8) (nc nm : Nat) (hnc : code.length = nc) (hnm : more.length = nm) (hc : nc ≤ 1048576) (hm : nm ≤ 1048576) (s1 : SlR w (.slice a1 nc c1) (byv code)) (s2 : SlR w (.slice a2 nm c2) (byv more)) :
    Calls Try.prog 4 #[.slice a1 nc c1, .slice a2 nm c2] w fun e w' => e = .returned (.bool true) ∧ Below w.heap.size w w' := by
  have HL := Lib.hid (b10Long_any _ _ code more w s1 s2)
  rw [hnc, hnm, show (decide (1048576 < nc) || decide (1048576 < nm)) = false by simp; omega] at HL
  have HAT : Hid (∀ (k n : Nat) (W : World), Below w.heap.size w W → k ≤ 1000 → n ≤ 1000 → Calls Try.prog 20 #[.slice a2 nm c2, .int .i64 (k : Int), .int .i64 (n : Int)] W fun e w' => e = .returned (.int .i64 ((atB more k n : Nat) : Int)) ∧ W = w') := Lib.hid fun k n W hW h1 h2 => b10At_any _ more k n W (by omega) (by omega) h2 (s2.below hW)
  obtain ⟨L, hL⟩ : ∃ L, L = 2 + atB more 0 2 := ⟨_, rfl⟩
  have hL2 : L = 2 ∨ L = 3 := by have := atB_lt more 0 2 (by omega); omega
  have HCA : Hid (∀ W, Below w.heap.size w W → Calls Try.prog 21 #[.slice a1 nc c1, .int .i64 (L : Int)] W fun e w' => (∃ (ks : List Nat) (v : Value), ks.length = L ∧ (∀ k ∈ ks, 1 ≤ k ∧ k ≤ 6) ∧ e = .returned v ∧ SlR w' v ((rowK ks).map (Value.float .f32))) ∧ Below W.heap.size W w') := Lib.hid fun W hW => B10Chances_any W _ code L (by omega) (by omega) (by omega) (s1.below hW)
  have HCB : Hid (∀ W, Below w.heap.size w W → Calls Try.prog 21 #[.slice a2 nm c2, .int .i64 (L : Int)] W fun e w' => (∃ (ks : List Nat) (v : Value), ks.length = L ∧ (∀ k ∈ ks, 1 ≤ k ∧ k ≤ 6) ∧ e = .returned v ∧ SlR w' v ((rowK ks).map (Value.float .f32))) ∧ Below W.heap.size W w') := Lib.hid fun W hW => B10Chances_any W _ more L (by omega) (by omega) (by omega) (s2.below hW)
  have HA0 := Lib.hid (HAT.out 0 2 w (Below.refl _ _) (by omega) (by omega))
  have HA1 := Lib.hid (HAT.out 1 8)
  have HA2 := Lib.hid (HAT.out 2 17)
  have ln := atB_lt more 1 8 (by omega)
  have lv := atB_lt more 2 17 (by omega)
  clear s1 s2 hnc hnm HAT
  have wL : wrap64 (2 + ((atB more 0 2 : Nat) : Int)) = (L : Int) := by rw [IntWalk.wrap64_in _ (by have := atB_lt more 0 2 (by omega); omega), hL]; push_cast; rfl
  clear hL
  generalize atB more 0 2 = vl at *
  generalize atB more 1 8 = n at *
  generalize atB more 2 17 = v at *
  go_enter Try.func4, Try.ntmps4
  go_upto_region 3 with (go_at_call 19; refine HL.out.mono ?_; rintro e w' ⟨rfl, rfl⟩)
  go_upto_region 4 with (go_at_call 20; refine HA0.out.mono ?_; rintro e w' ⟨rfl, rfl⟩)
  clear HL HA0
  go_upto_region 5 with (go_at_call 21; refine (HCA.out _ (Below.refl _ _)).mono ?_; rintro e w1 ⟨⟨ks, va, hk1, hk2, rfl, hsa⟩, hb1⟩)
  go_upto_region 6 with (go_at_call 21; refine (HCB.out _ hb1).mono ?_; rintro e w2 ⟨⟨js, vb, hj1, hj2, rfl, hsb⟩, hb2⟩)
  have hsa2 := hsa.below hb2
  have hbw := Below.trans hb1 (hb2.mono hb1.size)
  clear hsa hb1 hb2 wL
  have K : Dr ks L := ⟨hk1, hL2, hk2⟩
  have J : Dr js L := ⟨hj1, hL2, hj2⟩
  clear hk1 hk2 hj1 hj2
  obtain ⟨x, y, u, z, q, o1, o2, o3, TA⟩ := ts_errors K J (n := n) (v := v) (by omega) lv
  have TB := ts_b K J
  obtain ⟨p1, p2, _, _, _, p6, p7⟩ := bw_of lv
  have lka : (rowK ks).length ≤ 1048576 := by rw [rowK_length, K.len]; omega
  have lkb : (rowK js).length ≤ 1048576 := by rw [rowK_length, J.len]; omega
  have nI : I64 (n : Int) := by unfold I64; omega
  have HT1 : Hid (∀ W, Below w2.heap.size w2 W → Calls Try.prog 22 #[va, vb, .int .i64 (n : Int), .float .f32 (bw v)] W fun e w' => e = .returned (.tuple #[.float .f32 x, .float .f32 y, .bool true]) ∧ Below W.heap.size W w') := Lib.hid fun W hW => by
    have h := impl_TestErrors W va (rowK ks) (hsa2.below hW) K.lt lka vb (rowK js) (hsb.below hW) J.lt lkb (n : Int) nI (bw v) p6
    rw [o1] at h; exact h
  have HT2 : Hid (∀ W, Below w2.heap.size w2 W → Calls Try.prog 22 #[va, vb, .int .i64 (n : Int), .float .f32 (fA .add .f32 (bw v) 1056964608)] W fun e w' => e = .returned (.tuple #[.float .f32 u, .float .f32 z, .bool true]) ∧ Below W.heap.size W w') := Lib.hid fun W hW => by
    have h := impl_TestErrors W va (rowK ks) (hsa2.below hW) K.lt lka vb (rowK js) (hsb.below hW) J.lt lkb (n : Int) nI (fA .add .f32 (bw v) 1056964608) p7
    rw [o2] at h; exact h
  have HT3 : Hid (∀ W, Below w2.heap.size w2 W → Calls Try.prog 22 #[va, vb, .int .i64 (n : Int), .float .f32 3296329728] W fun e w' => e = .returned (.tuple #[.float .f32 0, .float .f32 q, .bool true]) ∧ Below W.heap.size W w') := Lib.hid fun W hW => by
    have h := impl_TestErrors W va (rowK ks) (hsa2.below hW) K.lt lka vb (rowK js) (hsb.below hW) J.lt lkb (n : Int) nI 3296329728 (by omega)
    rw [o3] at h; exact h
  have T := K.both J
  have HF0 : Hid (∀ W, Below w2.heap.size w2 W → Calls Try.prog 24 #[va, vb] W fun e w' => e = .returned (.tuple #[.float .f32 (fbR (rowK ks) (rowK js)), .float .f32 (farF (rowK ks) (rowK js) (fbR (rowK ks) (rowK js))), .bool true]) ∧ Below W.heap.size W w') := Lib.hid fun W hW => by
    have h := impl_FarthestBits W va (rowK ks) (hsa2.below hW) K.lt lka vb (rowK js) (hsb.below hW) J.lt lkb
    rw [out_fth T (K.abv J)] at h; exact h
  have HF1 : Hid (∀ W, Below w2.heap.size w2 W → Calls Try.prog 25 #[va, vb, .float .f32 1056964608] W fun e w' => e = .returned (.tuple #[.float .f32 (farF (rowK ks) (rowK js) 1056964608), .bool true]) ∧ Below W.heap.size W w') := Lib.hid fun W hW => by
    have h := impl_FarBits W va (rowK ks) (hsa2.below hW) K.lt lka vb (rowK js) (hsb.below hW) J.lt lkb 1056964608 (by omega)
    rw [out_far T (K.abv J) sh_half (by decide)] at h; exact h
  have HF2 : Hid (∀ W, Below w2.heap.size w2 W → Calls Try.prog 25 #[va, vb, .float .f32 0] W fun e w' => e = .returned (.tuple #[.float .f32 (farF (rowK ks) (rowK js) 0), .bool true]) ∧ Below W.heap.size W w') := Lib.hid fun W hW => by
    have h := impl_FarBits W va (rowK ks) (hsa2.below hW) K.lt lka vb (rowK js) (hsb.below hW) J.lt lkb 0 (by omega)
    rw [out_far T (K.abv J) sh_zero (by decide)] at h; exact h
  have HF3 : Hid (∀ W, Below w2.heap.size w2 W → Calls Try.prog 25 #[va, va, .float .f32 1048576000] W fun e w' => e = .returned (.tuple #[.float .f32 (farF (rowK ks) (rowK ks) 1048576000), .bool true]) ∧ Below W.heap.size W w') := Lib.hid fun W hW => by
    have h := impl_FarBits W va (rowK ks) (hsa2.below hW) K.lt lka va (rowK ks) (hsa2.below hW) K.lt lka 1048576000 (by omega)
    rw [out_far (K.both K) (K.abv K) sh_quarter (by decide)] at h; exact h
  have HF4 : Hid (∀ W, Below w2.heap.size w2 W → Calls Try.prog 25 #[vb, va, .float .f32 1056964608] W fun e w' => e = .returned (.tuple #[.float .f32 (farF (rowK js) (rowK ks) 1056964608), .bool true]) ∧ Below W.heap.size W w') := Lib.hid fun W hW => by
    have h := impl_FarBits W vb (rowK js) (hsb.below hW) J.lt lkb va (rowK ks) (hsa2.below hW) K.lt lka 1056964608 (by omega)
    rw [out_far (J.both K) (J.abv K) sh_half (by decide)] at h; exact h
  clear p6 p7 o1 o2 o3 lka lkb nI hsa2 hsb T K J hL2
  have wv : wrap64 ((v : Int) - 8) = (v : Int) - 8 := IntWalk.wrap64_in _ (by omega)
  have ebw : fA .quo .f32 (floatOfInt .f32 ((v : Int) - 8)) 1082130432 = bw v := rfl
  generalize bw v = bv at *
  generalize fbR (rowK ks) (rowK js) = sh at *
  generalize farF (rowK ks) (rowK js) sh = far at *
  generalize farF (rowK ks) (rowK js) 1056964608 = half at *
  generalize farF (rowK ks) (rowK js) 0 = none' at *
  generalize farF (rowK ks) (rowK ks) 1048576000 = same at *
  generalize farF (rowK js) (rowK ks) 1056964608 = back at *
  have r2 := Below.refl w2.heap.size w2
  go_upto_region 7 with (go_at_call 20; refine (HA1.out _ hbw (by omega) (by omega)).mono ?_; rintro e w' ⟨rfl, rfl⟩)
  go_upto_region 8 with (go_at_call 20; refine (HA2.out _ hbw (by omega) (by omega)).mono ?_; rintro e w' ⟨rfl, rfl⟩)
  go_upto_region 9 with (go_at_call 22; refine (HT1.out _ r2).mono ?_; rintro e w3 ⟨rfl, hb3⟩; have r3 := Below.trans r2 (hb3.mono r2.size))
  go_upto_region 10 with (go_at_call 22; refine (HT2.out _ r3).mono ?_; rintro e w4 ⟨rfl, hb4⟩; have r4 := Below.trans r3 (hb4.mono r3.size))
  go_upto_region 11 with (go_at_call 22; refine (HT3.out _ r4).mono ?_; rintro e w5 ⟨rfl, hb5⟩; have r5 := Below.trans r4 (hb5.mono r4.size))
  clear r2 hb3 r3 hb4 r4 hb5 HT1 HT2 HT3 HA1 HA2 HCA HCB wv ebw ln lv p1 p2
  obtain ⟨⟨A1, A2⟩, ⟨A3, A4, A5, A6, A7⟩, ⟨A8, A9⟩, ⟨A10, A11⟩, ⟨A12, A13⟩, A14⟩ := TA
  have cv : ∀ x : Nat, (floatToFloatBits .f32 x .f64).isSome = true → ∀ W : World, (convert 32 29 (.float .f32 x)).run Try.prog W = .ok (.float .f64 (up64 x)) W := fun x hx W => run_convert_float_float (P := Try.prog) W 32 29 .f32 .f64 _ _ (by rw [Try.underlying32]; rfl) Try.underlying29 (up_runG _ hx)
  have V1 := cv _ A3
  have V2 := cv _ A4
  have V3 := cv _ A5
  have V4 := cv _ A6
  have V5 := cv _ A7
  have HGA := Lib.hid (fun W => b10Gap_any _ _ W A12)
  have h00 : FloatKind.f32.format.order 0 0 = some .eq := by decide
  obtain ⟨⟨B1, B2⟩, ⟨B3, B4, B5, B6, B7⟩, ⟨B8, B9⟩, ⟨B10, B11⟩, ⟨B12, B13⟩, ⟨B14, B15⟩, B16⟩ := TB
  have U1 := cv _ B3
  have U2 := cv _ B4
  have U3 := cv _ B5
  have U4 := cv _ B6
  have U5 := cv _ B7
  have HG1 := Lib.hid (fun W => b10Gap_any _ _ W B10)
  have HG2 := Lib.hid (fun W => b10Gap_any _ _ W B12)
  have HG3 := Lib.hid (fun W => b10Gap_any _ _ W B14)
  clear cv A3 A4 A5 A6 A7 A12 B3 B4 B5 B6 B7 B10 B12 B14
  generalize up64 = up at *
  generalize gpW = gp at *
  go_upto_region 13 with (go_at_call 23; refine (HGA.out _).mono ?_; rintro e w' ⟨rfl, rfl⟩)
  clear V1 V2 V3 V4 V5 A1 A2 A8 A9 A10 A11 A13 A14 HGA h00
  go_upto_region 14 with (go_at_call 24; refine (HF0.out _ r5).mono ?_; rintro e w6 ⟨rfl, hb6⟩; have r6 := Below.trans r5 (hb6.mono r5.size))
  clear hb6 r5
  go_upto_region 15 with (go_at_call 25; refine (HF1.out _ r6).mono ?_; rintro e w7 ⟨rfl, hb7⟩; have r7 := Below.trans r6 (hb7.mono r6.size))
  clear hb7 r6
  go_upto_region 16 with (go_at_call 25; refine (HF2.out _ r7).mono ?_; rintro e w8 ⟨rfl, hb8⟩; have r8 := Below.trans r7 (hb8.mono r7.size))
  clear hb8 r7
  go_upto_region 17 with (go_at_call 25; refine (HF3.out _ r8).mono ?_; rintro e w9 ⟨rfl, hb9⟩; have r9 := Below.trans r8 (hb9.mono r8.size))
  clear hb9 r8
  go_upto_region 18 with (go_at_call 25; refine (HF4.out _ r9).mono ?_; rintro e w10 ⟨rfl, hb10⟩; have r10 := Below.trans r9 (hb10.mono r9.size))
  clear hb10 r9 HF0 HF1 HF2 HF3 HF4
  have hend := Below.trans hbw (r10.mono hbw.size)
  clear hbw r10
  rcases B1 with B1 | B1
  all_goals
    rcases B2 with B2 | B2
    all_goals
      go_wp2_with (go_at_call 23; first
        | (with_reducible refine (HG1.out _).mono ?_; rintro e w' ⟨rfl, rfl⟩)
        | (with_reducible refine (HG2.out _).mono ?_; rintro e w' ⟨rfl, rfl⟩)
        | (with_reducible refine (HG3.out _).mono ?_; rintro e w' ⟨rfl, rfl⟩))
      all_goals (go_ret; exact ⟨rfl, hend⟩)

set_option maxRecDepth 100000 in
theorem law_FnTests (w : World) (a1 : Option Addr) (c1 : Nat) (code : List UInt8) (_ : code.length ≤ c1 ∧ c1 ≤ 9223372036854775807) (s1 : SlR w (.slice a1 code.length c1) (byv code)) (_ : ∀ x ∈ code, True) (a2 : Option Addr) (c2 : Nat) (more : List UInt8) (_ : more.length ≤ c2 ∧ c2 ≤ 9223372036854775807) (s2 : SlR w (.slice a2 more.length c2) (byv more)) (_ : ∀ x ∈ more, True) :
    Calls Try.prog 4 #[.slice a1 code.length c1, .slice a2 more.length c2] w fun e w' => e = .returned (.bool true) ∧ Below w.heap.size w w' := by
  by_cases h : code.length ≤ 1048576 ∧ more.length ≤ 1048576
  · exact tests_walk w a1 a2 c1 c2 code more _ _ rfl rfl h.1 h.2 s1 s2
  · have HL := Lib.hid (b10Long_any _ _ code more w s1 s2)
    rw [show (decide (1048576 < code.length) || decide (1048576 < more.length)) = true by simp; omega] at HL
    clear s1 s2 h
    generalize code.length = n1 at *
    generalize more.length = n2 at *
    go_enter Try.func4, Try.ntmps4
    go_wp2_with (go_at_call 19; refine HL.out.mono ?_; rintro e w' ⟨rfl, rfl⟩)
    go_ret
    exact ⟨rfl, Below.refl _ _⟩

end Go.Proofs.Ytmocfnpbofeiiaa
