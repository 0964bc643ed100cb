/- Errors of tests: the reference's TestErrors. -/
import Derived.Test.YtjobgobeiiakgaaTe4
namespace Go.Proofs.Ytjobgobeiiakgaa
set_option linter.unusedSimpArgs false
set_option linter.unusedVariables false
open Go.RowKit
open Ieee
theorem El.new (W : World) (cs : List Nat) (T : TypeId) (hm : cs.length ≤ 100) : El (W.alloc (.cells (cs.map nvI).toArray T)) (.slice (some ⟨W.heap.size, 0, none⟩) cs.length cs.length) cs := by
  refine ⟨_, _, rfl, Nat.le_refl _, by unfold maxLen; omega, fun j x hx => ?_⟩
  have hj : j < cs.length := (List.getElem?_eq_some_iff.1 hx).1
  rw [List.getElem?_eq_getElem hj] at hx
  simp only [World.cell?]
  rw [heap_alloc_new]
  simp [hj, Option.some.inj hx]

set_option maxRecDepth 10000 in
set_option maxHeartbeats 8000000 in
theorem spec_TestErrors (w : World) (v : Value) (xs : List Nat) (hv : SlR w v (xs.map (Value.float .f32))) (hx : ∀ x ∈ xs, x < 4294967296) (_ : xs.length ≤ 1048576) (u : Value) (ys : List Nat) (hu : SlR w u (ys.map (Value.float .f32))) (hy : ∀ x ∈ ys, x < 4294967296) (_ : ys.length ≤ 1048576) (n : Int) (hn : I64 n) (bar : Nat) (hbar : bar < 4294967296) :
    Calls Try.prog 17 #[v, u, .int .i64 n, .float .f32 bar] w fun e w' => e = .returned (.tuple #[.float .f32 (out_TestErrors xs ys n bar).1, .float .f32 (out_TestErrors xs ys n bar).2.1, .bool (out_TestErrors xs ys n bar).2.2]) ∧ Below w.heap.size w w' := by
  have hlen : xs.length ≤ 1048576 := by assumption
  have HAB := Lib.hid (l03Full_any v u xs ys w hv hu hx hy)
  have HW2 : Hid (∀ W, Calls Try.prog 43 #[.int .i64 n, .int .i64 0, .int .i64 12] W fun e w' => e = .returned (.bool (inB n 0 12)) ∧ W = w') := Lib.hid fun W => l00In_any _ 0 12 W
  have HFB : Hid (∀ W, Calls Try.prog 52 #[.float .f32 bar] W fun e w' => e = .returned (.bool (finB bar)) ∧ Qu W w') := Lib.hid fun W => l01Finite_any bar W
  obtain ⟨a1, n1, c1, rfl, hn1, -, -, -⟩ := SlR.opened 0 hv
  obtain ⟨a2, n2, c2, rfl, hn2, -, -, -⟩ := SlR.opened 0 hu
  cases h1 : abvB xs ys
  · rw [outTE_no (teOk_no1 h1)]
    rw [h1] at HAB
    clear h1 hv hu hx hy hn1 hn2
    go_enter Try.func17, Try.ntmps17
    go_wp2_with (go_at_call 51; refine HAB.out.mono ?_; rintro e w1 ⟨rfl, hq1⟩)
    go_ret3
    exact ⟨rfl, hq1.keep⟩
  · rw [h1] at HAB
    by_cases h2 : 2 ≤ n1 ∧ n1 ≤ 3
    · obtain ⟨h2a, h2b⟩ := h2
      cases h3 : inB n 0 12
      · have hno : teOk xs ys n bar = false := by unfold teOk; rw [h3]; simp
        rw [outTE_no hno]
        rw [h3] at HW2
        clear h1 h3 hv hu hx hy hn1 hn2 hno
        go_enter Try.func17, Try.ntmps17
        go_wp2_with (first
          | (go_at_call 43; refine (HW2.out _).mono ?_; rintro e w' ⟨rfl, rfl⟩)
          | (go_at_call 51; refine HAB.out.mono ?_; rintro e w1 ⟨rfl, hq1⟩))
        go_ret3
        exact ⟨rfl, hq1.keep⟩
      · rw [h3] at HW2
        cases h4 : finB bar
        · have hno : teOk xs ys n bar = false := by unfold teOk; rw [h4]; simp
          rw [outTE_no hno]
          rw [h4] at HFB
          clear h1 h3 h4 hv hu hx hy hn1 hn2 hno
          go_enter Try.func17, Try.ntmps17
          go_wp2_with (first
            | (go_at_call 52; refine (HFB.out _).mono ?_; rintro e w2 ⟨rfl, hq2⟩)
            | (go_at_call 43; refine (HW2.out _).mono ?_; rintro e w' ⟨rfl, rfl⟩)
            | (go_at_call 51; refine HAB.out.mono ?_; rintro e w1 ⟨rfl, hq1⟩))
          go_ret3
          exact ⟨rfl, (hq1.trans hq2).keep⟩
        · rw [h4] at HFB
          have hL : n1 = 2 ∨ n1 = 3 := by omega
          obtain ⟨m, rfl⟩ : ∃ m : Nat, n = (m : Int) := ⟨n.toNat, by unfold inB at h3; have := of_decide_eq_true h3; omega⟩
          have hm : m ≤ 12 := by unfold inB at h3; have := of_decide_eq_true h3; omega
          have hok : teOk xs ys (m : Int) bar = true := by
            unfold teOk
            rw [h1, h3, h4, decide_eq_true (show 2 ≤ xs.length by omega), decide_eq_true (show xs.length ≤ 3 by omega)]; rfl
          obtain ⟨htw, hax, hay, hly, -⟩ := abvB_abv h1
          obtain ⟨hrx, hry, -⟩ := twB_split htw
          obtain ⟨L, hLd⟩ : ∃ L, L = n1 := ⟨_, rfl⟩
          subst hLd
          have hn2L : L = n2 := by omega
          subst hn2L
          obtain ⟨hN91, hty⟩ := ty_of (n := m) hm hL
          have HOUT : Hid (out_TestErrors xs ys (m : Int) bar = ((teF xs ys L bar (outT m L (m + 1))).1, (teF xs ys L bar (outT m L (m + 1))).2, true)) := by
            show _ = _
            unfold out_TestErrors
            rw [hok, Int.toNat_natCast, hn1]; rfl
          have hxl : xs.length = L := hn1
          have hyl : ys.length = L := by omega
          obtain ⟨b1, o1, k1, he1, q1, m1, cell1⟩ := sl_cells hv hxl (by omega)
          simp only [Value.slice.injEq] at he1
          obtain ⟨rfl, -, rfl⟩ := he1
          obtain ⟨b2, o2, k2, he2, q2, m2, cell2⟩ := sl_cells hu hyl (by omega)
          simp only [Value.slice.injEq] at he2
          obtain ⟨rfl, -, rfl⟩ := he2
          unfold maxLen at m1 m2
          have HC1 := Lib.hid cell1
          have HC2 := Lib.hid cell2
          have hL3 : L ≤ 3 := by omega
          have HSR : Hid (∀ cs, Ty m L cs → ∀ j, j < L → (floatBits .sub .f32 (enB (xs[j]?.getD 0)) (enB (ys[j]?.getD 0))).isSome = true ∧ (floatBits .mul .f32 (floatOfInt .f32 ((cs[j]?.getD 0 : Nat) : Int)) (fA .sub .f32 (enB (xs[j]?.getD 0)) (enB (ys[j]?.getD 0)))).isSome = true ∧ (floatBits .add .f32 (sfP xs ys cs j) (fA .mul .f32 (floatOfInt .f32 ((cs[j]?.getD 0 : Nat) : Int)) (fA .sub .f32 (enB (xs[j]?.getD 0)) (enB (ys[j]?.getD 0))))).isSome = true ∧ cs[j]?.getD 0 ≤ 12 ∧ (0 < xs[j]?.getD 0 ∧ xs[j]?.getD 0 < 2139095040) ∧ (0 < ys[j]?.getD 0 ∧ ys[j]?.getD 0 < 2139095040)) := Lib.hid fun cs hT j hj => sf_round hT hm hax hay hxl hyl hL3 hj
          have HSS : Hid (∀ cs j, sfP xs ys cs (j + 1) = fA .add .f32 (sfP xs ys cs j) (fA .mul .f32 (floatOfInt .f32 ((cs[j]?.getD 0 : Nat) : Int)) (fA .sub .f32 (enB (xs[j]?.getD 0)) (enB (ys[j]?.getD 0))))) := Lib.hid fun cs j => rfl
          have HS0 : Hid (∀ cs, sfP xs ys cs 0 = 0) := Lib.hid fun cs => rfl
          have HOR : Hid (∀ cs, Ty m L cs → FloatKind.f32.format.order (sfP xs ys cs L) bar = some .lt ∨ FloatKind.f32.format.order (sfP xs ys cs L) bar = some .eq ∨ FloatKind.f32.format.order (sfP xs ys cs L) bar = some .gt) := Lib.hid fun cs hT =>
            ord_ex ((sfP_bd hT hm hax hay hxl hyl L (Nat.le_refl _) hL3).1.fnt (k := .f32) (by show 21 + L ≤ 127; omega)) (finB_fnt h4)
          have HCA : Hid (∀ cs, Ty m L cs → ∀ W u, Below w.heap.size w W → SlR W u (cs.map nvI) → Calls Try.prog 54 #[.slice (some ⟨b1, o1, none⟩) L c1, u] W fun e w' => e = .returned (.tuple #[.float .f32 (chF xs cs L), .bool true]) ∧ Qu W w') := Lib.hid fun cs hT W u hW hu' => specChance_any m L xs cs _ u W hT hm hL hax hxl hrx (hv.below hW) hu'
          have HCB : Hid (∀ cs, Ty m L cs → ∀ W u, Below w.heap.size w W → SlR W u (cs.map nvI) → Calls Try.prog 54 #[.slice (some ⟨b2, o2, none⟩) L c2, u] W fun e w' => e = .returned (.tuple #[.float .f32 (chF ys cs L), .bool true]) ∧ Qu W w') := Lib.hid fun cs hT W u hW hu' => specChance_any m L ys cs _ u W hT hm hL hay hyl hry (hu.below hW) hu'
          have HPRE : Hid (∀ i k, i ≤ m → k ≤ m - i + 1 → (∀ cs ∈ outT m L i ++ inn m L i k, Ty m L cs) ∧ (outT m L i ++ inn m L i k).length ≤ 91) := Lib.hid fun i k hi hk => by
            have hp := mid_pre m L i k hi hk
            exact ⟨fun cs hc => hty cs (hp.subset hc), Nat.le_trans hp.length_le hN91⟩
          have HSO : Hid (∀ i k cs, i ≤ m → k ≤ m - i + 1 → Ty m L cs → (floatBits .add .f32 (teF xs ys L bar (outT m L i ++ inn m L i k)).1 (chF xs cs L)).isSome = true ∧ (floatBits .add .f32 (teF xs ys L bar (outT m L i ++ inn m L i k)).2 (chF ys cs L)).isSome = true) := Lib.hid fun i k cs hi hk hT =>
            teF_some hm hax hay hxl hyl (HPRE.out i k hi hk).1 (HPRE.out i k hi hk).2 hT
          have HNX : Hid (∀ i k, k ≤ m - i → outT m L i ++ inn m L i (k + 1) = outT m L i ++ inn m L i k ++ (if L = 2 then (if k = m - i then [[i, k]] else []) else [[i, k, m - i - k]])) := Lib.hid fun i k hk => by
            rw [inn_succ m L i k hk, List.append_assoc]
          have HI0 : Hid (∀ i, outT m L i = outT m L i ++ inn m L i 0) := Lib.hid fun i => by
            unfold inn
            split
            · rw [if_neg (by omega), List.append_nil]
            · simp
          have HSC : Hid (∀ i, outT m L (i + 1) = outT m L i ++ inn m L i (m - i + 1)) := Lib.hid fun i => outT_succ m L i
          have HSN : Hid (∀ l cs, teF xs ys L bar (l ++ [cs]) = teS xs ys L bar (teF xs ys L bar l) cs) := Lib.hid fun l cs => teF_snoc xs ys L bar l cs
          have HT00 : Hid (teF xs ys L bar (outT m L 0) = (0, 0)) := rfl
          have HBI : Hid (∀ x W, 0 < x → x < 2139095040 → Calls Try.prog 53 #[.float .f32 x] W fun e w' => e = .returned (.float .f32 (enB x)) ∧ ∃ mq, w' = W.drewN mq) := Lib.hid fun x W h0 h => l02Bits_any x W h0 h
          rw [HOUT.out]
          have hL2 : 2 ≤ L := by omega
          have HLL := Lib.hid hL
          clear cell1 cell2 h1 h3 h4 hok htw hax hay hly hrx hry hty hxl hyl hv hu hx hy hn1 hn2 hn hlen hN91 hL
          go_enter Try.func17, Try.ntmps17
          go_wp2_with (first
            | (go_at_call 52; refine (HFB.out _).mono ?_; rintro e w2 ⟨rfl, hq2⟩)
            | (go_at_call 43; refine (HW2.out _).mono ?_; rintro e w' ⟨rfl, rfl⟩)
            | (go_at_call 51; refine HAB.out.mono ?_; rintro e w1 ⟨rfl, hq1⟩))
          have hb2 := (hq1.trans hq2).keep
          clear HAB HW2 HFB hq2 hq1
          go_loopw [11, 12, 13] (fun a b i W => ∃ p : Nat, p ≤ m + 1 ∧ i = .int .i64 (p : Int) ∧ a = .float .f32 (teF xs ys L bar (outT m L p)).1 ∧ b = .float .f32 (teF xs ys L bar (outT m L p)).2 ∧ Below w.heap.size w W) (fun _ _ i _ => m + 1 - (intOf i).toNat)
          case atStart => exact ⟨0, Nat.zero_le _, rfl, by rw [HT00.out], by rw [HT00.out], hb2⟩
          case round =>
            clear hb2
            obtain ⟨p, hp, rfl, rfl, rfl, hb⟩ := hrel
            by_cases hlt : p < m + 1
            · obtain ⟨d, hd⟩ : ∃ d, d = m - p := ⟨_, rfl⟩
              have e1 : (m : Int) - (p : Int) = (d : Int) := by omega
              have HPR := HPRE.out p
              have HSOP := HSO.out p
              have HNP := HNX.out p
              have HSP := HSC.out p
              rw [← hd] at HPR HSOP HNP HSP
              replace HPR := Lib.hid HPR
              replace HSOP := Lib.hid HSOP
              replace HNP := Lib.hid HNP
              replace HSP := Lib.hid HSP
              have hd12 : d ≤ 12 := by omega
              have hpm : p ≤ m := by omega
              have hpm' : (p : Int) ≤ (m : Int) := by omega
              rw [HI0.out p]
              clear hd
              go_wp2_with fail
              go_loopw [11, 12, 14] (fun a b i W => ∃ k : Nat, k ≤ d + 1 ∧ i = .int .i64 (k : Int) ∧ a = .float .f32 (teF xs ys L bar (outT m L p ++ inn m L p k)).1 ∧ b = .float .f32 (teF xs ys L bar (outT m L p ++ inn m L p k)).2 ∧ Below w.heap.size w W) (fun _ _ i _ => d + 1 - (intOf i).toNat)
              case atStart => exact ⟨0, Nat.zero_le _, rfl, rfl, rfl, hb⟩
              case round =>
                clear hb
                obtain ⟨k, hk, rfl, rfl, rfl, hb⟩ := hrel
                by_cases hlt2 : k < d + 1
                · obtain ⟨d2, hd2⟩ : ∃ d2, d2 = d - k := ⟨_, rfl⟩
                  have e2 : (d : Int) - (k : Int) = (d2 : Int) := by omega
                  have hkd : (k : Int) ≤ (d : Int) := by omega
                  have HN := HNP.out k (by omega)
                  rw [← hd2] at HN
                  have HTP := (HPR.out (k + 1) hpm (by omega)).1
                  have HSK := HSOP.out k
                  obtain ⟨pl, hpl⟩ : ∃ pl, pl = outT m L p ++ inn m L p k := ⟨_, rfl⟩
                  rw [← hpl] at HN HSK ⊢
                  rw [HN] at HTP
                  clear hd2 hpl
                  rcases HLL.out with hL | hL
                  · rw [if_pos hL] at HN HTP
                    by_cases hkk : k = d
                    · rw [if_pos hkk] at HN HTP
                      have hTK := HTP [p, k] (by simp)
                      have HNK := Lib.hid HN
                      have hso := HSK [p, k] hpm (by omega) hTK
                      have hEl : El ((wr.alloc (.cells #[.int .i64 (p : Int), .int .i64 (k : Int), .int .i64 (d2 : Int)] 2)).alloc (.cells #[.int .i64 (p : Int), .int .i64 (k : Int)] 2)) (.slice (some ⟨(wr.alloc (.cells #[.int .i64 (p : Int), .int .i64 (k : Int), .int .i64 (d2 : Int)] 2)).heap.size, 0, none⟩) 2 2) [p, k] := El.new _ [p, k] 2 (by simp)
                      have hbA : Below w.heap.size w ((wr.alloc (.cells #[.int .i64 (p : Int), .int .i64 (k : Int), .int .i64 (d2 : Int)] 2)).alloc (.cells #[.int .i64 (p : Int), .int .i64 (k : Int)] 2)) := (hb.alloc hb.size _).alloc (by simp only [World.size_alloc]; have := hb.size; omega) _
                      rw [World.size_alloc] at hEl
                      have hkd2 : ((k : Int) == (d : Int)) = true := by rw [hkk]; exact beq_self_eq_true _
                      have HL2 := Lib.hid hL
                      have hLb : ((L : Int) == 2) = true := by rw [hL]; rfl
                      clear hL hkk
                      clear HN HTP HSK HPRE HSO HNX HSC HPR HSOP HNP
                      go_upto_region 15 with fail
                      generalize ((wr.alloc (.cells #[.int .i64 (p : Int), .int .i64 (k : Int), .int .i64 (d2 : Int)] 2)).alloc (.cells #[.int .i64 (p : Int), .int .i64 (k : Int)] 2)) = wa at *
                      generalize wr.heap.size + 1 = gb at *
                      have hsl := hEl.sl
                      have HCC : Hid (∀ W, Below wa.heap.size wa W → ∀ j, j < 2 → W.cell? ⟨gb, j, none⟩ = some (.int .i64 ((([p, k] : List Nat)[j]?.getD 0 : Nat) : Int))) := Lib.hid fun W hW j hj => by
                        obtain ⟨gc, cc, hee, -, -, hcc3⟩ := hEl
                        simp only [Value.slice.injEq, Option.some.injEq, Addr.mk.injEq] at hee
                        obtain ⟨⟨rfl, -⟩, -⟩ := hee
                        have := hcc3 j (([p, k] : List Nat)[j]'hj) (List.getElem?_eq_getElem hj)
                        rw [List.getElem?_eq_getElem (show j < ([p, k] : List Nat).length from hj)]
                        exact cell_step this hW
                      obtain ⟨cs, hcs⟩ : ∃ cs, cs = ([p, k] : List Nat) := ⟨_, rfl⟩
                      rw [← hcs] at hTK hso hsl HCC HNK
                      clear hcs hEl
                      have hso1 := hso.1
                      have hso2 := hso.2
                      have HTT := Lib.hid hTK
                      have HSL := Lib.hid hsl
                      have HSRK := Lib.hid (HSR.out cs hTK)
                      have HORK := Lib.hid (HOR.out cs hTK)
                      clear hso hsl hTK
                      obtain ⟨M, hM⟩ : ∃ M, M = (teF xs ys L bar pl).1 := ⟨_, rfl⟩
                      obtain ⟨T, hT⟩ : ∃ T, T = (teF xs ys L bar pl).2 := ⟨_, rfl⟩
                      rw [← hM] at hso1 ⊢
                      rw [← hT] at hso2 ⊢
                      have HM := Lib.hid hM
                      have HTT2 := Lib.hid hT
                      clear hM hT
                      go_wp2_with fail
                      go_loopw [16, 79] (fun s i W => ∃ j : Nat, j ≤ 2 ∧ i = .int .i64 (j : Int) ∧ s = .float .f32 (sfP xs ys cs j) ∧ Qu wa W) (fun _ i _ => 2 - (intOf i).toNat)
                      case atStart => exact ⟨0, Nat.zero_le _, rfl, by rw [HS0.out], Qu.refl _⟩
                      case round =>
                        obtain ⟨j, hj, rfl, rfl, hq4⟩ := hrel
                        by_cases hlt3 : j < 2
                        · have hjL : j < L := by have := HL2.out; omega
                          have hbj := hbA.trans (hq4.keep.mono hbA.size)
                          have d1 := HC1.out wr hbj j hjL
                          have d2' := HC2.out wr hbj j hjL
                          have d3 := HCC.out wr hq4.keep j hlt3
                          obtain ⟨r1, r2, r3, r4, ⟨r5, r6⟩, r7, r8⟩ := HSRK.out j hjL
                          have HSJ := Lib.hid (HSS.out cs j)
                          have hB1 : Hid (∀ W, Calls Try.prog 53 #[.float .f32 (xs[j]?.getD 0)] W fun e w' => e = .returned (.float .f32 (enB (xs[j]?.getD 0))) ∧ ∃ mq, w' = W.drewN mq) := Lib.hid fun W => HBI.out _ W r5 r6
                          have hB2 : Hid (∀ W, Calls Try.prog 53 #[.float .f32 (ys[j]?.getD 0)] W fun e w' => e = .returned (.float .f32 (enB (ys[j]?.getD 0))) ∧ ∃ mq, w' = W.drewN mq) := Lib.hid fun W => HBI.out _ W r7 r8
                          clear r5 r6 r7 r8 hbj
                          generalize xs[j]?.getD 0 = z at *
                          generalize ys[j]?.getD 0 = y at *
                          generalize cs[j]?.getD 0 = cj at *
                          generalize sfP xs ys cs j = S at *
                          generalize enB z = la at *
                          generalize enB y = lb at *
                          go_wp2_with fail
                          go_quiet (first | (go_at_call 53; first | (with_reducible exact Calls.quiet_of (hB1.out _)) | (with_reducible exact Calls.quiet_of (hB2.out _))))
                          go_wp2
                          go_roundw
                          case rel => exact ⟨j + 1, by omega, by go_num, by rw [HSJ.out], hq4.drewN _⟩
                          case measure => simp [intOf]; omega
                        · obtain rfl : j = 2 := by omega
                          rcases HORK.out with ho | ho | ho
                          · have hg := geF_lt ho
                            have HNXF : Hid (teF xs ys L bar (outT m L p ++ inn m L p (k + 1)) = (fA .add .f32 M (chF xs cs L), T)) := by
                              show _ = _
                              rw [HNK.out, HSN.out]; unfold teS; rw [hg, if_neg (by simp), HM.out, HTT2.out]
                            have HCH1 := Lib.hid (HCA.out cs HTT.out wr _ (hbA.trans (hq4.keep.mono hbA.size)) (HSL.out.below hq4.keep))
                            have HCH2 := Lib.hid (fun W (hW : Qu wr W) => HCB.out cs HTT.out W _ (hbA.trans ((hq4.trans hW).keep.mono hbA.size)) (HSL.out.below (hq4.trans hW).keep))
                            rw [HL2.out] at ho
                            clear hg
                            generalize chF xs cs L = X1 at *
                            generalize chF ys cs L = X2 at *
                            generalize sfP xs ys cs 2 = S at *
                            go_wp2_with fail
                            refine HCH1.out.mono ?_
                            rintro e w5 ⟨rfl, hq5⟩
                            go_wp2_with fail
                            refine (HCH2.out w5 hq5).mono ?_
                            rintro e w6 ⟨rfl, hq6⟩
                            clear HCH1 HCH2
                            go_wp2
                            go_roundw
                            case rel => exact ⟨k + 1, by omega, by go_num, by rw [HNXF.out], by rw [HNXF.out], hbA.trans ((hq4.trans (hq5.trans hq6)).keep.mono hbA.size)⟩
                            case measure => simp [intOf]; omega
                          · have hg := geF_eq ho
                            have HNXF : Hid (teF xs ys L bar (outT m L p ++ inn m L p (k + 1)) = (M, fA .add .f32 T (chF ys cs L))) := by
                              show _ = _
                              rw [HNK.out, HSN.out]; unfold teS; rw [hg, if_pos rfl, HM.out, HTT2.out]
                            have HCH1 := Lib.hid (HCA.out cs HTT.out wr _ (hbA.trans (hq4.keep.mono hbA.size)) (HSL.out.below hq4.keep))
                            have HCH2 := Lib.hid (fun W (hW : Qu wr W) => HCB.out cs HTT.out W _ (hbA.trans ((hq4.trans hW).keep.mono hbA.size)) (HSL.out.below (hq4.trans hW).keep))
                            rw [HL2.out] at ho
                            clear hg
                            generalize chF xs cs L = X1 at *
                            generalize chF ys cs L = X2 at *
                            generalize sfP xs ys cs 2 = S at *
                            go_wp2_with fail
                            refine HCH1.out.mono ?_
                            rintro e w5 ⟨rfl, hq5⟩
                            go_wp2_with fail
                            refine (HCH2.out w5 hq5).mono ?_
                            rintro e w6 ⟨rfl, hq6⟩
                            clear HCH1 HCH2
                            go_wp2
                            go_roundw
                            case rel => exact ⟨k + 1, by omega, by go_num, by rw [HNXF.out], by rw [HNXF.out], hbA.trans ((hq4.trans (hq5.trans hq6)).keep.mono hbA.size)⟩
                            case measure => simp [intOf]; omega
                          · have hg := geF_gt ho
                            have HNXF : Hid (teF xs ys L bar (outT m L p ++ inn m L p (k + 1)) = (M, fA .add .f32 T (chF ys cs L))) := by
                              show _ = _
                              rw [HNK.out, HSN.out]; unfold teS; rw [hg, if_pos rfl, HM.out, HTT2.out]
                            have HCH1 := Lib.hid (HCA.out cs HTT.out wr _ (hbA.trans (hq4.keep.mono hbA.size)) (HSL.out.below hq4.keep))
                            have HCH2 := Lib.hid (fun W (hW : Qu wr W) => HCB.out cs HTT.out W _ (hbA.trans ((hq4.trans hW).keep.mono hbA.size)) (HSL.out.below (hq4.trans hW).keep))
                            rw [HL2.out] at ho
                            clear hg
                            generalize chF xs cs L = X1 at *
                            generalize chF ys cs L = X2 at *
                            generalize sfP xs ys cs 2 = S at *
                            go_wp2_with fail
                            refine HCH1.out.mono ?_
                            rintro e w5 ⟨rfl, hq5⟩
                            go_wp2_with fail
                            refine (HCH2.out w5 hq5).mono ?_
                            rintro e w6 ⟨rfl, hq6⟩
                            clear HCH1 HCH2
                            go_wp2
                            go_roundw
                            case rel => exact ⟨k + 1, by omega, by go_num, by rw [HNXF.out], by rw [HNXF.out], hbA.trans ((hq4.trans (hq5.trans hq6)).keep.mono hbA.size)⟩
                            case measure => simp [intOf]; omega
                    · rw [if_neg hkk, List.append_nil] at HN
                      have HNK := Lib.hid HN
                      have hkd2 : ((k : Int) == (d : Int)) = false := beq_false_of_ne (by omega)
                      have hbA : Below w.heap.size w (wr.alloc (.cells #[.int .i64 (p : Int), .int .i64 (k : Int), .int .i64 (d2 : Int)] 2)) := hb.alloc hb.size _
                      have hLb : ((L : Int) == 2) = true := by rw [hL]; rfl
                      clear hL
                      clear HN HTP HSK HPRE HSO HNX HSC HPR HSOP HNP
                      go_wp2
                      go_roundw
                      case rel => exact ⟨k + 1, by omega, by go_num, by rw [HNK.out], by rw [HNK.out], hbA⟩
                      case measure => simp [intOf]; omega
                  · rw [if_neg (show ¬ L = 2 by omega)] at HN HTP
                    have hTK := HTP [p, k, d2] (by simp)
                    have HNK := Lib.hid HN
                    have hso := HSK [p, k, d2] hpm (by omega) hTK
                    have hEl : El (wr.alloc (.cells #[.int .i64 (p : Int), .int .i64 (k : Int), .int .i64 (d2 : Int)] 2)) (.slice (some ⟨wr.heap.size, 0, none⟩) 3 3) [p, k, d2] := El.new _ [p, k, d2] 2 (by simp)
                    have hbA : Below w.heap.size w (wr.alloc (.cells #[.int .i64 (p : Int), .int .i64 (k : Int), .int .i64 (d2 : Int)] 2)) := hb.alloc hb.size _
                    have HL2 := Lib.hid hL
                    have hLb : ((L : Int) == 2) = false := by rw [hL]; rfl
                    clear hL
                    clear HN HTP HSK HPRE HSO HNX HSC HPR HSOP HNP
                    go_upto_region 15 with fail
                    generalize wr.alloc (.cells #[.int .i64 (p : Int), .int .i64 (k : Int), .int .i64 (d2 : Int)] 2) = wa at *
                    generalize wr.heap.size = gb at *
                    have hsl := hEl.sl
                    have HCC : Hid (∀ W, Below wa.heap.size wa W → ∀ j, j < 3 → W.cell? ⟨gb, j, none⟩ = some (.int .i64 ((([p, k, d2] : List Nat)[j]?.getD 0 : Nat) : Int))) := Lib.hid fun W hW j hj => by
                      obtain ⟨gc, cc, hee, -, -, hcc3⟩ := hEl
                      simp only [Value.slice.injEq, Option.some.injEq, Addr.mk.injEq] at hee
                      obtain ⟨⟨rfl, -⟩, -⟩ := hee
                      have := hcc3 j (([p, k, d2] : List Nat)[j]'hj) (List.getElem?_eq_getElem hj)
                      rw [List.getElem?_eq_getElem (show j < ([p, k, d2] : List Nat).length from hj)]
                      exact cell_step this hW
                    obtain ⟨cs, hcs⟩ : ∃ cs, cs = ([p, k, d2] : List Nat) := ⟨_, rfl⟩
                    rw [← hcs] at hTK hso hsl HCC HNK
                    clear hcs hEl
                    have hso1 := hso.1
                    have hso2 := hso.2
                    have HTT := Lib.hid hTK
                    have HSL := Lib.hid hsl
                    have HSRK := Lib.hid (HSR.out cs hTK)
                    have HORK := Lib.hid (HOR.out cs hTK)
                    clear hso hsl hTK
                    obtain ⟨M, hM⟩ : ∃ M, M = (teF xs ys L bar pl).1 := ⟨_, rfl⟩
                    obtain ⟨T, hT⟩ : ∃ T, T = (teF xs ys L bar pl).2 := ⟨_, rfl⟩
                    rw [← hM] at hso1 ⊢
                    rw [← hT] at hso2 ⊢
                    have HM := Lib.hid hM
                    have HTT2 := Lib.hid hT
                    clear hM hT
                    go_wp2_with fail
                    go_loopw [16, 79] (fun s i W => ∃ j : Nat, j ≤ 3 ∧ i = .int .i64 (j : Int) ∧ s = .float .f32 (sfP xs ys cs j) ∧ Qu wa W) (fun _ i _ => 3 - (intOf i).toNat)
                    case atStart => exact ⟨0, Nat.zero_le _, rfl, by rw [HS0.out], Qu.refl _⟩
                    case round =>
                      obtain ⟨j, hj, rfl, rfl, hq4⟩ := hrel
                      by_cases hlt3 : j < 3
                      · have hjL : j < L := by have := HL2.out; omega
                        have hbj := hbA.trans (hq4.keep.mono hbA.size)
                        have d1 := HC1.out wr hbj j hjL
                        have d2' := HC2.out wr hbj j hjL
                        have d3 := HCC.out wr hq4.keep j hlt3
                        obtain ⟨r1, r2, r3, r4, ⟨r5, r6⟩, r7, r8⟩ := HSRK.out j hjL
                        have HSJ := Lib.hid (HSS.out cs j)
                        have hB1 : Hid (∀ W, Calls Try.prog 53 #[.float .f32 (xs[j]?.getD 0)] W fun e w' => e = .returned (.float .f32 (enB (xs[j]?.getD 0))) ∧ ∃ mq, w' = W.drewN mq) := Lib.hid fun W => HBI.out _ W r5 r6
                        have hB2 : Hid (∀ W, Calls Try.prog 53 #[.float .f32 (ys[j]?.getD 0)] W fun e w' => e = .returned (.float .f32 (enB (ys[j]?.getD 0))) ∧ ∃ mq, w' = W.drewN mq) := Lib.hid fun W => HBI.out _ W r7 r8
                        clear r5 r6 r7 r8 hbj
                        generalize xs[j]?.getD 0 = z at *
                        generalize ys[j]?.getD 0 = y at *
                        generalize cs[j]?.getD 0 = cj at *
                        generalize sfP xs ys cs j = S at *
                        generalize enB z = la at *
                        generalize enB y = lb at *
                        go_wp2_with fail
                        go_quiet (first | (go_at_call 53; first | (with_reducible exact Calls.quiet_of (hB1.out _)) | (with_reducible exact Calls.quiet_of (hB2.out _))))
                        go_wp2
                        go_roundw
                        case rel => exact ⟨j + 1, by omega, by go_num, by rw [HSJ.out], hq4.drewN _⟩
                        case measure => simp [intOf]; omega
                      · obtain rfl : j = 3 := by omega
                        rcases HORK.out with ho | ho | ho
                        · have hg := geF_lt ho
                          have HNXF : Hid (teF xs ys L bar (outT m L p ++ inn m L p (k + 1)) = (fA .add .f32 M (chF xs cs L), T)) := by
                            show _ = _
                            rw [HNK.out, HSN.out]; unfold teS; rw [hg, if_neg (by simp), HM.out, HTT2.out]
                          have HCH1 := Lib.hid (HCA.out cs HTT.out wr _ (hbA.trans (hq4.keep.mono hbA.size)) (HSL.out.below hq4.keep))
                          have HCH2 := Lib.hid (fun W (hW : Qu wr W) => HCB.out cs HTT.out W _ (hbA.trans ((hq4.trans hW).keep.mono hbA.size)) (HSL.out.below (hq4.trans hW).keep))
                          rw [HL2.out] at ho
                          clear hg
                          generalize chF xs cs L = X1 at *
                          generalize chF ys cs L = X2 at *
                          generalize sfP xs ys cs 3 = S at *
                          go_wp2_with fail
                          refine HCH1.out.mono ?_
                          rintro e w5 ⟨rfl, hq5⟩
                          go_wp2_with fail
                          refine (HCH2.out w5 hq5).mono ?_
                          rintro e w6 ⟨rfl, hq6⟩
                          clear HCH1 HCH2
                          go_wp2
                          go_roundw
                          case rel => exact ⟨k + 1, by omega, by go_num, by rw [HNXF.out], by rw [HNXF.out], hbA.trans ((hq4.trans (hq5.trans hq6)).keep.mono hbA.size)⟩
                          case measure => simp [intOf]; omega
                        · have hg := geF_eq ho
                          have HNXF : Hid (teF xs ys L bar (outT m L p ++ inn m L p (k + 1)) = (M, fA .add .f32 T (chF ys cs L))) := by
                            show _ = _
                            rw [HNK.out, HSN.out]; unfold teS; rw [hg, if_pos rfl, HM.out, HTT2.out]
                          have HCH1 := Lib.hid (HCA.out cs HTT.out wr _ (hbA.trans (hq4.keep.mono hbA.size)) (HSL.out.below hq4.keep))
                          have HCH2 := Lib.hid (fun W (hW : Qu wr W) => HCB.out cs HTT.out W _ (hbA.trans ((hq4.trans hW).keep.mono hbA.size)) (HSL.out.below (hq4.trans hW).keep))
                          rw [HL2.out] at ho
                          clear hg
                          generalize chF xs cs L = X1 at *
                          generalize chF ys cs L = X2 at *
                          generalize sfP xs ys cs 3 = S at *
                          go_wp2_with fail
                          refine HCH1.out.mono ?_
                          rintro e w5 ⟨rfl, hq5⟩
                          go_wp2_with fail
                          refine (HCH2.out w5 hq5).mono ?_
                          rintro e w6 ⟨rfl, hq6⟩
                          clear HCH1 HCH2
                          go_wp2
                          go_roundw
                          case rel => exact ⟨k + 1, by omega, by go_num, by rw [HNXF.out], by rw [HNXF.out], hbA.trans ((hq4.trans (hq5.trans hq6)).keep.mono hbA.size)⟩
                          case measure => simp [intOf]; omega
                        · have hg := geF_gt ho
                          have HNXF : Hid (teF xs ys L bar (outT m L p ++ inn m L p (k + 1)) = (M, fA .add .f32 T (chF ys cs L))) := by
                            show _ = _
                            rw [HNK.out, HSN.out]; unfold teS; rw [hg, if_pos rfl, HM.out, HTT2.out]
                          have HCH1 := Lib.hid (HCA.out cs HTT.out wr _ (hbA.trans (hq4.keep.mono hbA.size)) (HSL.out.below hq4.keep))
                          have HCH2 := Lib.hid (fun W (hW : Qu wr W) => HCB.out cs HTT.out W _ (hbA.trans ((hq4.trans hW).keep.mono hbA.size)) (HSL.out.below (hq4.trans hW).keep))
                          rw [HL2.out] at ho
                          clear hg
                          generalize chF xs cs L = X1 at *
                          generalize chF ys cs L = X2 at *
                          generalize sfP xs ys cs 3 = S at *
                          go_wp2_with fail
                          refine HCH1.out.mono ?_
                          rintro e w5 ⟨rfl, hq5⟩
                          go_wp2_with fail
                          refine (HCH2.out w5 hq5).mono ?_
                          rintro e w6 ⟨rfl, hq6⟩
                          clear HCH1 HCH2
                          go_wp2
                          go_roundw
                          case rel => exact ⟨k + 1, by omega, by go_num, by rw [HNXF.out], by rw [HNXF.out], hbA.trans ((hq4.trans (hq5.trans hq6)).keep.mono hbA.size)⟩
                          case measure => simp [intOf]; omega
                · obtain rfl : k = d + 1 := by omega
                  have hkd : ¬ ((d + 1 : Nat) : Int) ≤ (d : Int) := by omega
                  rw [← HSP.out]
                  go_wp2
                  go_roundw
                  case rel => exact ⟨p + 1, by omega, by go_num, rfl, rfl, hb⟩
                  case measure => simp [intOf]; omega
            · obtain rfl : p = m + 1 := by omega
              have hpm : ¬ ((m + 1 : Nat) : Int) ≤ (m : Int) := by omega
              go_wp2
              go_ret3
              exact ⟨rfl, hb⟩
    · have hno : teOk xs ys n bar = false := by
        unfold teOk
        by_cases h : 2 ≤ xs.length
        · rw [decide_eq_false (show ¬ xs.length ≤ 3 by omega)]; simp
        · rw [decide_eq_false h]; simp
      rw [outTE_no hno]
      clear h1 hv hu hx hy hn1 hn2 hno hlen
      by_cases h2a : n1 < 2
      · have h2c : (n1 : Int) < 2 := by omega
        clear h2
        go_enter Try.func17, Try.ntmps17
        go_wp2_with (go_at_call 51; refine HAB.out.mono ?_; rintro e w1 ⟨rfl, hq1⟩)
        go_ret3
        exact ⟨rfl, hq1.keep⟩
      · have h2c : ¬ (n1 : Int) < 2 := by omega
        have h2d : (3 : Int) < (n1 : Int) := by omega
        clear h2
        go_enter Try.func17, Try.ntmps17
        go_wp2_with (go_at_call 51; refine HAB.out.mono ?_; rintro e w1 ⟨rfl, hq1⟩)
        go_ret3
        exact ⟨rfl, hq1.keep⟩

end Go.Proofs.Ytjobgobeiiakgaa
