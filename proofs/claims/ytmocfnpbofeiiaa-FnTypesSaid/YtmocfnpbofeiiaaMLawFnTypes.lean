/- The law FnTypes: the whole walk. -/
import Derived.Test.YtmocfnpbofeiiaaMTyW
import Derived.Test.YtmocfnpbofeiiaaMRdb
import Derived.Deep.RegionHeld3
import Derived.Deep.Cut
import Derived.Deep.CutBlock
namespace Go.Proofs.Ytmocfnpbofeiiaa
set_option linter.unusedSimpArgs false
set_option linter.unusedVariables false
open Go.RowKit
open Ieee
theorem nat_at {w : World} {a : Option Addr} {n c : Nat} {xs : List Nat} (h : SlR w (.slice a n c) (xs.map nvI)) (hn : xs.length = n) : ∀ i, i < n → ∃ g off, a = some ⟨g, off, none⟩ ∧ g < w.heap.size ∧ w.cell? ⟨g, off + i, none⟩ = some (.int .i64 ((xs[i]?.getD 0 : Nat) : Int)) := by
  intro i hi
  obtain ⟨a', c', e, _, _, h4⟩ := h
  simp only [Value.slice.injEq] at e
  obtain ⟨rfl, -, rfl⟩ := e
  obtain ⟨g, off, ha, hc⟩ := h4 i (nvI (xs[i]?.getD 0)) (by rw [List.getElem?_map, List.getElem?_eq_getElem (by omega)]; rfl)
  exact ⟨g, off, ha, World.block_lt_of_cell? w _ hc, hc⟩

set_option maxRecDepth 100000 in
set_option maxHeartbeats 16000000 in
theorem types_walk (w : World) (a1 a2 : Option Addr) (c1 c2 : Nat) (code more : List UInt8) (nc nm : Nat) (hnc : code.length = nc) (hnm : more.length = nm) (hc : nc ≤ 48) (hm : nm ≤ 48) (s1 : SlR w (.slice a1 nc c1) (byv code)) (s2 : SlR w (.slice a2 nm c2) (byv more)) :
    Calls Try.prog 3 #[.slice a1 nc c1, .slice a2 nm c2] w fun e w' => e = .returned (.bool true) ∧ Below w.heap.size w w' := by
  have HL := Lib.hid (r8Long_any _ _ code more w s1 s2)
  rw [hnc, hnm, show (decide (48 < nc) || decide (48 < nm)) = false by simp; omega] at HL
  have HAT : Hid (∀ (k n : Nat) (W : World), Below w.heap.size w W → k ≤ 1000 → n ≤ 1000 → Calls Try.prog 9 #[.slice a2 nm c2, .int .i64 (k : Int), .int .i64 (n : Int)] W fun e w' => e = .returned (.int .i64 ((at8 more k n : Nat) : Int)) ∧ W = w') := Lib.hid fun k n W hW h1 h2 => r8At_any _ more k n W (by omega) (by omega) h2 (s2.below hW)
  have HRO := Lib.hid (R8Row_any w _ code 3 (by omega) (by omega) (by omega) s1)
  have HCO : Hid (∀ W, Below w.heap.size w W → Calls Try.prog 16 #[.slice a2 nm c2, .int .i64 ((3 : Nat) : Int)] W fun e w' => (∃ (cs : List Nat) (v : Value), Cn cs 3 ∧ e = .returned v ∧ SlR w' v (cnV cs)) ∧ Below W.heap.size W w') := Lib.hid fun W hW => R8Counts_any W _ more 3 (by omega) (by omega) (by omega) (s2.below hW)
  have HA0 := Lib.hid (HAT.out 40 7 w (Below.refl _ _) (by omega) (by omega))
  have HA1 := Lib.hid (fun W hW => HAT.out 41 20 W hW (by omega) (by omega))
  have HA2 := Lib.hid (fun W hW => HAT.out 42 256 W hW (by omega) (by omega))
  have ln := at8_lt more 40 7 (by omega)
  have ll := at8_lt more 41 20 (by omega)
  have le := at8_lt more 42 256 (by omega)
  clear s1 s2 hnc hnm HAT
  generalize at8 more 40 7 = n at *
  generalize at8 more 41 20 = lg at *
  generalize at8 more 42 256 = sd at *
  go_enter Try.func3, Try.ntmps3
  go_upto_region 3 with (go_at_call 8; refine HL.out.mono ?_; rintro e w' ⟨rfl, rfl⟩)
  go_upto_region 4 with (go_at_call 9; refine HA0.out.mono ?_; rintro e w' ⟨rfl, rfl⟩)
  go_upto_region 5 with (go_at_call 10; refine HRO.out.mono ?_; rintro e w1 ⟨⟨cs, v, hcn, rfl, hsl⟩, hb1⟩)
  clear HL HA0 HRO
  have HCT := Lib.hid (countTypes_any n w1 (by omega))
  have hb1s := hb1.size
  go_upto_region 6 with (go_at_call 11; refine HCT.out.mono ?_; rintro e w' ⟨rfl, rfl⟩)
  have HWO : Hid (∀ (W : World) (u : Value) (i k : Nat), i ≤ n → k ≤ n - i → SlR W u ([i, k, n - i - k].map nvI) → Calls Try.prog 12 #[u] W fun e w' => e = .returned (.tuple #[.int .i64 ((wsP [i, k, n - i - k] 3 : Nat) : Int), .bool true]) ∧ W = w') := Lib.hid fun W u i k hi hk hu => implWords_any n 3 _ u W (tys_mem3 (tp_step hcn (by omega) hi hk).1 (by omega)) (by omega) (.inr rfl) hu
  have HCH : Hid (∀ (W : World) (u : Value) (i k : Nat), i ≤ n → k ≤ n - i → Below w1.heap.size w1 W → SlR W u ([i, k, n - i - k].map nvI) → Calls Try.prog 13 #[v, u] W fun e w' => e = .returned (.tuple #[.float .f32 (chF (rowK cs) [i, k, n - i - k] 3), .bool true]) ∧ Qu W w') := Lib.hid fun W u i k hi hk hW hu => implChance1_any n 3 (rowK cs) _ v u W (tys_mem3 (tp_step hcn (by omega) hi hk).1 (by omega)) (by omega) (.inr rfl) (hcn.ab (by omega) (by omega)) (by rw [rowK_len, hcn.len]) (hcn.row (by omega) (by omega)) (hsl.below hW) hu
  have HSTEP : Hid (∀ (i k : Nat), i ≤ n → k ≤ n - i → (floatBits .add .f64 (tpS (rowK cs) (tpP n i k)) (up64 (chF (rowK cs) [i, k, n - i - k] 3))).isSome = true ∧ (tpP n i k).length ≤ 28 ∧ tpW (tpP n i k) ≤ 60000 ∧ 1 ≤ wsP [i, k, n - i - k] 3 ∧ wsP [i, k, n - i - k] 3 < 2000 ∧ (floatToFloatBits .f32 (chF (rowK cs) [i, k, n - i - k] 3) .f64).isSome = true ∧ (FloatKind.f32.format.order (chF (rowK cs) [i, k, n - i - k] 3) 0 == some .lt) = false) := Lib.hid fun i k hi hk => (tp_step hcn (by omega) hi hk).2
  obtain ⟨t1, t2, t3⟩ := types_of (n := n) (by omega)
  have HTP : Hid (∀ i k, k ≤ n - i → tpP n i (k + 1) = tpP n i k ++ [[i, k, n - i - k]]) := Lib.hid fun i k hk => tpP_succ hk
  have HTE : Hid (∀ i, tpP n i (n - i + 1) = outT n 3 (i + 1)) := Lib.hid fun i => tpP_end
  have HTZ : Hid (∀ i, tpP n i 0 = outT n 3 i) := Lib.hid fun i => tpP_zero n i
  go_upto_block 0 with fail
  go_cut [9, 10, 11, 12, 13, 14, 15, 16, 17, 18] from 51 to 104 (fun s9 s10 s11 _ _ _ _ _ _ _ W => s9 = .int .i64 (((tysL n 3).length : Nat) : Int) ∧ s10 = .int .i64 ((tpW (tysL n 3) : Nat) : Int) ∧ s11 = .float .f64 (tpS (rowK cs) (tysL n 3)) ∧ Below w1.heap.size w1 W)
  case first =>
    clear HCO HA1 HA2 HCT
    go_wp2_with fail
    go_loopw [9, 10, 11, 12] (fun s9 s10 s11 q W => ∃ i : Nat, i ≤ n + 1 ∧ q = .int .i64 (i : Int) ∧ s9 = .int .i64 (((outT n 3 i).length : Nat) : Int) ∧ s10 = .int .i64 ((tpW (outT n 3 i) : Nat) : Int) ∧ s11 = .float .f64 (tpS (rowK cs) (outT n 3 i)) ∧ Below w1.heap.size w1 W) (fun _ _ _ q _ => n + 1 - (intOf q).toNat)
    case atStart => exact ⟨0, by omega, rfl, rfl, rfl, rfl, Below.refl _ _⟩
    case round =>
      obtain ⟨i, hi, rfl, rfl, rfl, rfl, hb⟩ := hrel
      by_cases hlt : i ≤ n
      · rw [← HTZ.out i]
        go_wp2
        go_loopw [9, 10, 11, 13] (fun s9 s10 s11 q W => ∃ k : Nat, k ≤ n - i + 1 ∧ q = .int .i64 (k : Int) ∧ s9 = .int .i64 (((tpP n i k).length : Nat) : Int) ∧ s10 = .int .i64 ((tpW (tpP n i k) : Nat) : Int) ∧ s11 = .float .f64 (tpS (rowK cs) (tpP n i k)) ∧ Below w1.heap.size w1 W) (fun _ _ _ q _ => n - i + 1 - (intOf q).toNat)
        case atStart => exact ⟨0, by omega, rfl, rfl, rfl, rfl, hb⟩
        case round =>
          clear hb
          obtain ⟨k, hk, rfl, rfl, rfl, rfl, hb⟩ := hrel
          have hbs := hb.size
          by_cases hlt2 : k ≤ n - i
          · obtain ⟨e1, e2, e3, e4, e5, e6, e7⟩ := HSTEP.out i k hlt hlt2
            have HPS := HTP.out i k hlt2
            have HN1 : Hid ((tpP n i (k + 1)).length = (tpP n i k).length + 1) := Lib.hid (by rw [HPS, List.length_append]; rfl)
            have HN2 : Hid (tpW (tpP n i (k + 1)) = tpW (tpP n i k) + wsP [i, k, n - i - k] 3) := Lib.hid (by rw [HPS, tpW_snoc])
            have HN3 : Hid (tpS (rowK cs) (tpP n i (k + 1)) = fA .add .f64 (tpS (rowK cs) (tpP n i k)) (up64 (chF (rowK cs) [i, k, n - i - k] 3))) := Lib.hid (by rw [HPS, tpS_snoc])
            have hin : i + k ≤ n := by omega
            have hik : (n : Int) - (i : Int) - (k : Int) = ((n - i - k : Nat) : Int) := by omega
            have HSL : Hid (∀ W : World, SlR (W.alloc (.cells #[.int .i64 (i : Int), .int .i64 (k : Int), .int .i64 ((n - i - k : Nat) : Int)] 2)) (.slice (some ⟨W.heap.size, 0, none⟩) 3 3) ([i, k, n - i - k].map nvI)) := Lib.hid fun W => by
              refine ⟨_, _, rfl, by simp, by unfold maxLen; simp, fun j u hu => ⟨_, 0, rfl, ?_⟩⟩
              match j, hu with
              | 0, hu => simp [nvI] at hu; simp [hu]
              | 1, hu => simp [nvI] at hu; simp [hu]
              | 2, hu => simp [nvI] at hu; simp [hu]
            have HW1 := Lib.hid (HWO.out _ _ i k hlt hlt2 (HSL.out wr))
            have hbA : Below w1.heap.size w1 (wr.alloc (.cells #[.int .i64 (i : Int), .int .i64 (k : Int), .int .i64 ((n - i - k : Nat) : Int)] 2)) := hb.trans (by go_grown)
            have HC1 := Lib.hid (HCH.out _ _ i k hlt hlt2 hbA (HSL.out wr))
            have cv := fun W : World => run_convert_float_float (P := Try.prog) W 32 29 .f32 .f64 _ _ (by rw [Try.underlying32]; rfl) Try.underlying29 (up_runG _ e6)
            clear HPS e6
            have hw1 : ((wsP [i, k, n - i - k] 3 : Nat) : Int) ≥ 1 := by omega
            generalize wsP [i, k, n - i - k] 3 = ws at *
            generalize chF (rowK cs) [i, k, n - i - k] 3 = ch at *
            generalize tpS (rowK cs) (tpP n i k) = S0 at *
            generalize tpW (tpP n i k) = W0 at *
            generalize (tpP n i k).length = N0 at *
            generalize up64 ch = uc at *
            go_wp2_with (first
              | (go_at_call 12; refine HW1.out.mono ?_; rintro e w' ⟨rfl, rfl⟩)
              | (go_at_call 13; refine HC1.out.mono ?_; rintro e w2 ⟨rfl, hq⟩))
            go_roundw
            case rel => exact ⟨k + 1, by omega, by go_num, by rw [HN1.out]; push_cast; rfl, by rw [HN2.out]; push_cast; rfl, by rw [HN3.out], hbA.trans (hq.keep.mono hbA.size)⟩
            case measure => simp [intOf]; omega
          · obtain rfl : k = n - i + 1 := by omega
            rw [HTE.out i]
            go_wp2
            go_roundw
            case rel => exact ⟨i + 1, by omega, by go_num, rfl, rfl, rfl, hb⟩
            case measure => simp [intOf]; omega
      · obtain rfl : i = n + 1 := by omega
        go_wp2
        go_meet
        case rel => exact ⟨rfl, rfl, rfl, hb⟩
  case rest =>
    obtain ⟨rfl, rfl, rfl, hbc⟩ := hcut
    have hbw := Below.trans hb1 (hbc.mono hb1s)
    have hslc := hsl.below hbc
    obtain ⟨rg, g1, g2⟩ := tp_gap (n := n) hcn (by omega)
    have HGA := Lib.hid g2
    have HSD : Hid (∀ (W : World) (s m : Nat), Below wc.heap.size wc W → s < 4294967296 → m ≤ 64 → Calls Try.prog 15 #[v, .int .i64 (s : Int), .int .i64 (m : Int)] W fun e w' => (∃ a c, e = .returned (.tuple #[.slice a m c, .int .i64 ((sdI s m : Nat) : Int), .bool true]) ∧ SlR w' (.slice a m c) ((ltrs (rowK cs) s m).map nvI)) ∧ Below W.heap.size W w') := Lib.hid fun W s m hW hs hm => drawLetters_any cs v s m W hcn hs hm (hslc.below hW)
    clear g2 HWO HCH HSTEP HTP HTE HTZ HCT hb1 hbc hb1s hsl
    rw [t1, t2]
    clear t1 t2 t3
    have h3n : 3 ^ n ≤ 729 := by
      have : ∀ k : Nat, k < 7 → 3 ^ k ≤ 729 := by decide
      exact this n ln
    have H3 : Hid (∀ k : Nat, 3 ^ (k + 1) = 3 ^ k * 3) := fun k => by rw [Nat.pow_succ]
    have H3b : Hid (∀ k : Nat, k ≤ n → 3 ^ k ≤ 729) := fun k hk => by
      have : ∀ k : Nat, k < 7 → 3 ^ k ≤ 729 := by decide
      exact this k (by omega)
    go_wp2_with fail
    go_loopw [19, 20] (fun s q W => ∃ k : Nat, k ≤ n ∧ q = .int .i64 (k : Int) ∧ s = .int .i64 ((3 ^ k : Nat) : Int) ∧ wc = W) (fun _ q _ => n - (intOf q).toNat)
    case atStart => exact ⟨0, Nat.zero_le _, rfl, rfl, rfl⟩
    case round =>
      obtain ⟨k, hk, rfl, rfl, rfl⟩ := hrel
      by_cases hlt : k < n
      · have HK := Lib.hid (H3.out k)
        have hb3 := H3b.out k (by omega)
        obtain ⟨p3, hp3⟩ : ∃ p, p = 3 ^ k := ⟨_, rfl⟩
        obtain ⟨p4, hp4⟩ : ∃ p, p = 3 ^ (k + 1) := ⟨_, rfl⟩
        have HP4 := Lib.hid hp4
        rw [← hp3, ← hp4] at HK
        rw [← hp3] at hb3 ⊢
        clear hp3 hp4
        go_wp2
        go_roundw
        case rel => exact ⟨k + 1, by omega, by go_num, by rw [← HP4.out, HK.out]; push_cast; rfl, by first | rfl | trivial⟩
        case measure => simp [intOf]; omega
      · obtain rfl : k = n := by omega
        clear H3 H3b
        generalize 3 ^ k = P3 at *
        generalize chs (k + 2) 2 2 = CT at *
        have hsd : sd * 65537 < 4294967296 := by omega
        obtain ⟨s0, hs0⟩ : ∃ s, s = sd * 65537 := ⟨_, rfl⟩
        have eseed : (sd : Int) * 65537 = (s0 : Int) := by omega
        rw [← hs0] at hsd
        clear hs0
        have hlg : ((lg / 2 : Nat) : Int) = (lg : Int) / 2 := Int.natCast_ediv _ _
        have hlg2 : ((lg - lg / 2 : Nat) : Int) = (lg : Int) - (lg : Int) / 2 := by omega
        obtain ⟨h1, hh1⟩ : ∃ h, h = lg / 2 := ⟨_, rfl⟩
        obtain ⟨h2, hh2⟩ : ∃ h, h = lg - lg / 2 := ⟨_, rfl⟩
        have HD1 := Lib.hid (HSD.out wc s0 lg (Below.refl _ _) hsd (by omega))
        have HD2 := Lib.hid (fun W hW => HSD.out W s0 h1 hW hsd (by omega))
        have HD3 := Lib.hid (fun W hW => HSD.out W (sdI s0 h1) h2 hW (sdI_lt hsd _) (by omega))
        have elast : Hid (sdI (sdI s0 h1) h2 = sdI s0 lg) := Lib.hid (by rw [← sdI_add]; congr 1; omega)
        have hq1 : (lg : Int) / 2 = (h1 : Int) := by omega
        have hq2 : (lg : Int) - (h1 : Int) = (h2 : Int) := by omega
        have HLEN : Hid (h1 + h2 = lg) := Lib.hid (by omega)
        clear hlg hlg2
        have r0 := Below.refl wc.heap.size wc
        clear HSD hh1 hh2
        go_upto_region 30 with (go_at_call 14; refine (HGA.out _).mono ?_; rintro e w' ⟨rfl, rfl⟩)
        clear HGA g1
        go_upto_region 31 with (go_at_call 9; refine (HA1.out _ hbw).mono ?_; rintro e w' ⟨rfl, rfl⟩)
        go_upto_region 32 with (go_at_call 9; refine (HA2.out _ hbw).mono ?_; rintro e w' ⟨rfl, rfl⟩)
        go_upto_region 33 with (go_at_call 15; refine HD1.out.mono ?_; rintro e wd1 ⟨⟨A1, C1, rfl, hl1⟩, hbd1⟩; have r1 := Below.trans r0 (hbd1.mono r0.size))
        go_upto_region 34 with (go_at_call 15; refine (HD2.out _ r1).mono ?_; rintro e wd2 ⟨⟨A2, C2, rfl, hl2⟩, hbd2⟩; have r2 := Below.trans r1 (hbd2.mono r1.size))
        go_upto_region 35 with (go_at_call 15; refine (HD3.out _ r2).mono ?_; rintro e wd3 ⟨⟨A3, C3, rfl, hl3⟩, hbd3⟩; have r3 := Below.trans r2 (hbd3.mono r2.size))
        rw [elast.out]
        have hl1' := (hl1.below hbd2).below hbd3
        have hl2' := hl2.below hbd3
        have hslD := hslc.below r3
        have hbw3 := Below.trans hbw (r3.mono hbw.size)
        clear hl1 hl2 hbd1 hbd2 hbd3 r0 r1 r2 r3 HD1 HD2 HD3 elast hslc hbw HA1 HA2
        have HLT : Hid (∀ i, i < lg → ∃ x : Nat, x < 3 ∧ 0 < (rowK cs)[x]?.getD 0 ∧ gtF ((rowK cs)[x]?.getD 0) 0 = true ∧ (ltrs (rowK cs) s0 lg)[i]?.getD 0 = x ∧ (i < h1 → (ltrs (rowK cs) s0 h1)[i]?.getD 0 = x) ∧ (h1 ≤ i → (ltrs (rowK cs) (sdI s0 h1) h2)[i - h1]?.getD 0 = x)) := Lib.hid fun i hi => by
          obtain ⟨p1, p2, p3⟩ := hcn.letr (s := sdI s0 i)
          refine ⟨_, p1, p2, p3, ltrs_get _ _ _ hi, fun h => ltrs_get _ _ _ h, fun h => ?_⟩
          rw [ltrs_get _ _ _ (by omega), ← sdI_add]
          congr 2; omega
        have HCL1 : Hid (∀ i, i < lg → ∃ g off, A1 = some ⟨g, off, none⟩ ∧ g < wd3.heap.size ∧ wd3.cell? ⟨g, off + i, none⟩ = some (.int .i64 (((ltrs (rowK cs) s0 lg)[i]?.getD 0 : Nat) : Int))) := Lib.hid (nat_at hl1' (ltrs_length _ _ _))
        have HCL2 : Hid (∀ i, i < h1 → ∃ g off, A2 = some ⟨g, off, none⟩ ∧ g < wd3.heap.size ∧ wd3.cell? ⟨g, off + i, none⟩ = some (.int .i64 (((ltrs (rowK cs) s0 h1)[i]?.getD 0 : Nat) : Int))) := Lib.hid (nat_at hl2' (ltrs_length _ _ _))
        have HCL3 : Hid (∀ i, i < h2 → ∃ g off, A3 = some ⟨g, off, none⟩ ∧ g < wd3.heap.size ∧ wd3.cell? ⟨g, off + i, none⟩ = some (.int .i64 (((ltrs (rowK cs) (sdI s0 h1) h2)[i]?.getD 0 : Nat) : Int))) := Lib.hid (nat_at hl3 (ltrs_length _ _ _))
        obtain ⟨rb, ro, rc, rfl, _, _, rcell⟩ := sl_cells hslD (show (rowK cs).length = 3 by rw [rowK_len, hcn.len]) (by omega)
        have HRC := Lib.hid rcell
        clear hl1' hl2' hl3 hslD rcell
        have hsum3 : (h1 : Int) + (h2 : Int) = (lg : Int) := by have := HLEN.out; omega
        have h1le : h1 ≤ lg := by have := HLEN.out; omega
        go_upto_region 37 with fail
        clear hsum3 hq1 hq2
        go_wp2_with fail
        go_loopw [32] (fun q W => ∃ i : Nat, i ≤ lg ∧ q = .int .i64 (i : Int) ∧ Qu wd3 W) (fun q _ => lg - (intOf q).toNat)
        case atStart => exact ⟨0, Nat.zero_le _, rfl, Qu.refl _⟩
        case round =>
          obtain ⟨i, hi, rfl, hq⟩ := hrel
          by_cases hil : i < lg
          · obtain ⟨x, x3, x0, xg, e1, e2, e3⟩ := HLT.out i hil
            obtain ⟨ga, oa, rfl, gal, ca⟩ := HCL1.out i hil
            rw [e1] at ca
            have ca' := (hq.keep.cell (p := ⟨ga, oa + i, none⟩) gal).trans ca
            have crx := HRC.out wr (Below.trans (Below.refl _ _) hq.keep) x x3
            have xo : FloatKind.f32.format.order ((rowK cs)[x]?.getD 0) 0 = some .gt := by simpa [gtF] using xg
            generalize (rowK cs)[x]?.getD 0 = rx at *
            clear ca e1 xg
            by_cases hih : i < h1
            · obtain ⟨gb, ob, rfl, gbl, cb⟩ := HCL2.out i hih
              rw [e2 hih] at cb
              have cb' := (hq.keep.cell (p := ⟨gb, ob + i, none⟩) gbl).trans cb
              clear cb e2 e3
              have hd1 : decide (i < h1) = true := decide_eq_true hih
              have hd2 : decide (h1 ≤ i) = false := decide_eq_false (by omega)
              go_upto_region 42 with fail
              go_quiet (fail)
              go_wp2
              go_roundw
              case rel => exact ⟨i + 1, by omega, by go_num, hq.drewN _⟩
              case measure => simp [intOf]; omega
            · obtain ⟨gb, ob, rfl, gbl, cb⟩ := HCL3.out (i - h1) (by have := HLEN.out; omega)
              rw [e3 (by omega)] at cb
              have cb' := (hq.keep.cell (p := ⟨gb, ob + (i - h1), none⟩) gbl).trans cb
              have hd1 : decide (i < h1) = false := decide_eq_false hih
              have hd2 : decide (h1 ≤ i) = true := decide_eq_true (by omega)
              have hij : i - h1 < h2 := by have := HLEN.out; omega
              have hsub : (i : Int) - (h1 : Int) = ((i - h1 : Nat) : Int) := by omega
              have HI := Lib.hid (show h1 + (i - h1) = i by omega)
              clear cb e2 e3
              generalize i - h1 = ij at *
              go_upto_region 42 with fail
              go_quiet (fail)
              go_wp2
              go_roundw
              case rel => exact ⟨i + 1, by omega, by go_num, hq.drewN _⟩
              case measure => simp [intOf]; omega
          · have hbq := Below.trans hbw3 (hq.keep.mono hbw3.size)
            have HCO1 := Lib.hid (HCO.out wr hbq)
            clear HLT HCL1 HCL2 HCL3 HRC HCO hbw3 hq HLEN h1le
            go_upto_region 45 with (go_at_call 16; refine HCO1.out.mono ?_; rintro e w5 ⟨⟨ds, dv, hcd, rfl, hds⟩, hb5⟩; have hB5 := Below.trans hbq (hb5.mono hbq.size))
            clear HCO1 hbq hb5
            have HRC1 := Lib.hid (RowOfCounts_any 3 ds dv w5 hcd (by omega) (by omega) hds)
            have hrw := hcd.row (by omega) (by omega)
            have hl32 := hcd.lt (by omega) (by omega)
            have HSM1 : Hid (∀ W, Below w5.heap.size w5 W → Calls Try.prog 18 #[dv, .float .f32 0] W fun e w' => (∃ a' c, e = .returned (.tuple #[.slice a' 3 c, .bool true]) ∧ SlR w' (.slice a' 3 c) ((rowK ds).map (Value.float .f32))) ∧ Below W.heap.size W w') := Lib.hid fun W hW => by
              have := SmoothRow_any 0 3 ds dv W (by omega) hcd (by omega) (by omega) (hds.below hW) (by rw [plus_zero]; exact hrw) (by rw [plus_zero]; exact hl32)
              rwa [plus_zero] at this
            clear hrw hl32
            go_upto_region 46 with (go_at_call 17; refine HRC1.out.mono ?_; rintro e w6 ⟨⟨A4, C4, rfl, hl4⟩, hb6⟩; have hB6 := Below.trans hB5 (hb6.mono hB5.size))
            clear HRC1 hB5
            go_upto_region 47 with (go_at_call 18; refine (HSM1.out _ hb6).mono ?_; rintro e w7 ⟨⟨A5, C5, rfl, hl5⟩, hb7⟩; have hB7 := Below.trans hB6 (hb7.mono hB6.size))
            have hlen3 := hcd.len
            have hd7 := (hds.below hb6).below hb7
            have hl4' := hl4.below hb7
            clear hB6 hds hl4 HSM1
            obtain ⟨da, dq, dc, rfl, _, _, dcell⟩ := int_cells hd7 hlen3 (by omega)
            obtain ⟨ea, eo, ec, ee, _, _, ecell⟩ := sl_cells hl4' (show (rowK ds).length = 3 by rw [rowK_len, hlen3]) (by omega)
            obtain ⟨fa, fo, fc, fe, _, _, fcell⟩ := sl_cells hl5 (show (rowK ds).length = 3 by rw [rowK_len, hlen3]) (by omega)
            simp only [Value.slice.injEq] at ee fe
            obtain ⟨rfl, -, rfl⟩ := ee
            obtain ⟨rfl, -, rfl⟩ := fe
            have HDC := Lib.hid dcell
            have HEC := Lib.hid ecell
            have HFC := Lib.hid fcell
            have HV : Hid (∀ j, j < 3 → FloatKind.f32.format.order ((rowK ds)[j]?.getD 0) ((rowK ds)[j]?.getD 0) = some .eq ∧ ((ds[j]?.getD 0 = 0 ∧ FloatKind.f32.format.order ((rowK ds)[j]?.getD 0) 0 = some .eq) ∨ (0 < ds[j]?.getD 0 ∧ FloatKind.f32.format.order ((rowK ds)[j]?.getD 0) 0 = some .gt))) := Lib.hid fun j hj => by
              obtain ⟨q1, q2, q3, q4, -⟩ := hcd.q (by omega) (by omega) hj
              refine ⟨order_xx (by omega), ?_⟩
              by_cases h0 : ds[j]?.getD 0 = 0
              · exact .inl ⟨h0, by rw [q3 h0]; rfl⟩
              · exact .inr ⟨by omega, order_x0 (q4 (by omega)).1 (by omega)⟩
            clear dcell ecell fcell hcd hl4' hl5 hd7 hb6 hb7
            go_upto_region 49 with fail
            go_wp2_with fail
            go_loopw [38] (fun q W => ∃ i : Nat, i ≤ 3 ∧ q = .int .i64 (i : Int) ∧ Qu w7 W) (fun q _ => 3 - (intOf q).toNat)
            case atStart => exact ⟨0, Nat.zero_le _, rfl, Qu.refl _⟩
            case round =>
              obtain ⟨j, hj, rfl, hq⟩ := hrel
              by_cases hj3 : j < 3
              · obtain ⟨v1, v2⟩ := HV.out j hj3
                have c1 := HDC.out wr (Below.trans (Below.refl _ _) hq.keep) j hj3
                have c2 := HEC.out wr (Below.trans (Below.refl _ _) hq.keep) j hj3
                have c3 := HFC.out wr (Below.trans (Below.refl _ _) hq.keep) j hj3
                generalize (rowK ds)[j]?.getD 0 = rj at *
                generalize ds[j]?.getD 0 = dj at *
                rcases v2 with ⟨rfl, v2⟩ | ⟨v0, v2⟩
                · go_upto_region 52 with fail
                  go_quiet (fail)
                  go_wp2
                  go_roundw
                  case rel => exact ⟨j + 1, by omega, by go_num, hq.drewN _⟩
                  case measure => simp [intOf]; omega
                · have v3 : ((dj : Int) == 0) = false := by simp; omega
                  go_upto_region 52 with fail
                  go_quiet (fail)
                  go_wp2
                  go_roundw
                  case rel => exact ⟨j + 1, by omega, by go_num, hq.drewN _⟩
                  case measure => simp [intOf]; omega
              · have hend := hB7.trans (hq.keep.mono hB7.size)
                clear hq hB7
                obtain rfl : j = 3 := by omega
                go_wp2
                go_ret
                exact ⟨rfl, hend⟩

set_option maxRecDepth 100000 in
theorem law_FnTypes (w : World) (a1 : Option Addr) (c1 : Nat) (code : List UInt8) (_ : code.length ≤ c1 ∧ c1 ≤ 9223372036854775807) (s1 : SlR w (.slice a1 code.length c1) (byv code)) (_ : ∀ x ∈ code, True) (a2 : Option Addr) (c2 : Nat) (more : List UInt8) (_ : more.length ≤ c2 ∧ c2 ≤ 9223372036854775807) (s2 : SlR w (.slice a2 more.length c2) (byv more)) (_ : ∀ x ∈ more, True) :
    Calls Try.prog 3 #[.slice a1 code.length c1, .slice a2 more.length c2] w fun e w' => e = .returned (.bool true) ∧ Below w.heap.size w w' := by
  by_cases h : code.length ≤ 48 ∧ more.length ≤ 48
  · exact types_walk w a1 a2 c1 c2 code more _ _ rfl rfl h.1 h.2 s1 s2
  · have HL := Lib.hid (r8Long_any _ _ code more w s1 s2)
    rw [show (decide (48 < code.length) || decide (48 < more.length)) = true by simp; omega] at HL
    clear s1 s2 h
    generalize code.length = n1 at *
    generalize more.length = n2 at *
    go_enter Try.func3, Try.ntmps3
    go_wp2_with (go_at_call 8; refine HL.out.mono ?_; rintro e w' ⟨rfl, rfl⟩)
    go_ret
    exact ⟨rfl, Below.refl _ _⟩

end Go.Proofs.Ytmocfnpbofeiiaa
